/- Walk of curve.Fit at valid samples. -/
import Derived.Test.YtlbnicapkfmdoaaFit2
import Derived.WalkSmall
namespace Go.Proofs.Ytlbnicapkfmdoaa
open Go.RowKit

theorem blockInfo : (Try.prog.info? 85).map (fun i => (i.zero, i.size, i.bytes)) = some (some (.agg #[.int .i64 0, .int .i64 0]), 2, 16) := by kernel_rfl
theorem pointInfo : (Try.prog.info? 66).map (fun i => (i.zero, i.size, i.bytes)) = some (some (.agg #[.int .i64 0, .int .i64 0]), 2, 16) := by kernel_rfl

set_option maxRecDepth 100000 in
set_option maxHeartbeats 8000000 in
theorem fit_good (A : Option Addr) (ps : List (Int × Int)) (c : Nat) (w : World) (h : Pts w A ps) (hok : fitE ps = 0) :
    Calls Try.prog 47 #[.slice A ps.length c] w (OutCurve (fitL ps) 0 w) := by
  have h0 : ps.length ≤ 31 := by
    unfold fitE at hok
    rcases Nat.lt_or_ge 31 ps.length with h' | h'
    · rw [if_pos h'] at hok; omega
    · exact h'
  have h1 : 1 ≤ ps.length := by
    unfold fitE at hok
    rcases Nat.eq_zero_or_pos ps.length with h' | h'
    · rw [if_neg (by omega), if_pos h'] at hok; omega
    · exact h'
  have hs := (fitE_scan h0 h1 rfl).symm.trans hok
  have hrange := fscan_ok hs
  have hr2 : ∀ p ∈ ps, 0 ≤ p.2 ∧ p.2 ≤ 65280 := fun p hp => ⟨(hrange p hp).2.2.1, (hrange p hp).2.2.2⟩
  have HR := Lib.hid hrange
  have HR2 := Lib.hid hr2
  have HS0 := Lib.hid hs
  have hb : ((ps.length : Int) == 0) = false := by rw [beq_eq_false_iff_ne]; omega
  obtain ⟨ib, hib, hb0, hb1, hb2⟩ := info_parts blockInfo
  obtain ⟨ip, hip, hp0, hp1, hp2⟩ := info_parts pointInfo
  have HIB := Lib.hid hib
  have HIP := Lib.hid hip
  have HB0 := Lib.hid (And.intro hb0 (And.intro hb1 hb2))
  have HP0 := Lib.hid (And.intro hp0 (And.intro hp1 hp2))
  clear hok hs hrange hr2 hib hip hb0 hb1 hb2 hp0 hp1 hp2
  go_enter Try.func47, Try.ntmps47
  go_wp2
  go_loopg [4, 5, 28] ps.length (fun gk _ _ i wr => ∃ (k : Nat) (px py : Int), k + gk = ps.length ∧ i = .int .i64 k ∧ Below w.heap.size w wr ∧ wr.cell? ⟨w.heap.size, 0, none⟩ = some (.slice none 0 0) ∧ wr.frozen? ⟨w.heap.size, 0, none⟩ = false ∧
      Hid (fitScan (-1) ps = fitScan px (ps.drop k)) ∧ Hid (k = 0 ∧ px = -1 ∨ 0 < k ∧ ps[k - 1]? = some (px, py)))
  case atStart => exact ⟨0, -1, 0, by omega, rfl, (Below.refl _ _).alloc (Nat.le_refl _) _, by simp [go_sem], by simp [go_sem], rfl, .inl ⟨rfl, rfl⟩⟩
  case round =>
    obtain ⟨k, px, py, hgk, rfl, hbel, hbox, hfz, hscan, hprev⟩ := hrel
    have hBw := hbel.size
    have hw1 : w.heap.size < wr.heap.size := lt_of_cell hbox
    by_cases hlt : k < ps.length
    · obtain ⟨b, o, x, y, rfl, hx, hc, hd⟩ := (h.kept hbel).at hlt
      have hw2 : b < wr.heap.size := lt_of_cell hc
      have hS := HS0.out.symm.trans hscan.out
      rw [drop_at hx.out] at hS
      have HG := Lib.hid hgk
      clear hgk
      by_cases hr : x < 0 ∨ 65280 < x ∨ y < 0 ∨ 65280 < y
      · rw [fscan_out hr] at hS; omega
      obtain ⟨g1, g2, g3, g4⟩ : 0 ≤ x ∧ x ≤ 65280 ∧ 0 ≤ y ∧ y ≤ 65280 := by omega
      have HI := Lib.hid h
      by_cases hk0 : k = 0
      · subst hk0
        rcases hprev.out with ⟨_, rfl⟩ | ⟨h', _⟩
        · rw [fscan_on hr (by omega)] at hS
          have HS := Lib.hid (HS0.out.trans hS)
          clear h hS hr
          simp only [Nat.zero_mul, Nat.add_zero] at hc hd
          go_wp2
          go_quiet (fail)
          go_wp2
          go_roundg (gk - 1)
          case measure => have := HG.out; omega
          case rel => exact ⟨1, x, y, by have := HG.out; omega, by go_num, (by repeat (first | assumption | exact Below.refl _ _ | refine below_drewN ?_ _ | refine Below.drew ?_ | refine Below.setCell ?_ (by first | exact Nat.le_refl _ | assumption | (simp; done) | (simp; omega) | omega) _ | refine Below.alloc ?_ (by first | exact Nat.le_refl _ | assumption | (simp; done) | omega | (simp; omega)) _)), cell_kept (below_drewN ((Below.refl _ _).alloc (Nat.le_refl _) _) _) hbox, ((below_drewN ((Below.refl _ wr).alloc (Nat.le_refl _) _) _).frozen hw1).trans hfz, HS.out, .inr ⟨by omega, hx.out⟩⟩
        · omega
      · have hprev' : ps[k - 1]? = some (px, py) := by
          rcases hprev.out with ⟨h', _⟩ | ⟨_, h'⟩
          · omega
          · exact h'
        obtain ⟨qx, qy, hq, hqc, hqd⟩ := (h.kept hbel).same (i := k - 1) (by omega)
        obtain ⟨rfl, rfl⟩ : qx = px ∧ qy = py := by
          have := hq.out.symm.trans hprev'
          simpa using this
        have hd0 : decide (0 < k) = true := by simp; omega
        have hkp : 1 ≤ (k : Int) := by omega
        have hkq : (k : Int) < ps.length := by omega
        have HP := Lib.hid hprev'
        by_cases ho : x ≤ qx
        · rw [fscan_order hr ho] at hS; omega
        · rw [fscan_on hr ho] at hS
          have HS := Lib.hid (HS0.out.trans hS)
          have e1 : qx < x := by omega
          have e3 : decide (x ≤ qx) = false := by simp; omega
          clear h hS hr hq ho hprev' hprev
          go_wp2
          go_quiet (fail)
          go_wp2
          go_roundg (gk - 1)
          case measure => have := HG.out; omega
          case rel => exact ⟨k + 1, x, y, by have := HG.out; omega, by go_num, (by repeat (first | assumption | exact Below.refl _ _ | refine below_drewN ?_ _ | refine Below.drew ?_ | refine Below.setCell ?_ (by first | exact Nat.le_refl _ | assumption | (simp; done) | (simp; omega) | omega) _ | refine Below.alloc ?_ (by first | exact Nat.le_refl _ | assumption | (simp; done) | omega | (simp; omega)) _)), cell_kept (below_drewN ((Below.refl _ _).alloc (Nat.le_refl _) _) _) hbox, ((below_drewN ((Below.refl _ wr).alloc (Nat.le_refl _) _) _).frozen hw1).trans hfz, HS.out, .inr ⟨by omega, hx.out⟩⟩
    · have hge : decide (k < ps.length) = false := by simp; omega
      have hge2 : ps.length ≤ k := by omega
      clear hlt hscan hprev hgk
      go_wp2
      go_loopg [6, 8, 9, 10, 69] ps.length (fun gk sp _ _ _ i wr => ∃ (k n cp : Nat) (Ap : Option Addr), k + gk = ps.length ∧ i = .int .i64 k ∧ sp = .slice Ap n cp ∧ n = (poolB (ps.take k)).length ∧
          wr.ownsRow (w.heap.size + 1) 85 2 (.slice Ap n cp) n (encP (poolB (ps.take k)).reverse) ∧ Below w.heap.size w wr ∧ wr.cell? ⟨w.heap.size, 0, none⟩ = some (.slice none 0 0) ∧ wr.frozen? ⟨w.heap.size, 0, none⟩ = false ∧ w.heap.size < wr.heap.size)
      case atStart => exact ⟨0, 0, 0, none, by omega, rfl, rfl, rfl, World.ownsRow_nil _ _ _ _, hbel, hbox, hfz, hw1⟩
      case round =>
        obtain ⟨k, n, cp, Ap, hgk, rfl, rfl, hn, hown, hbel, hbox, hfz, hw1⟩ := hrel
        have hBw := hbel.size
        by_cases hlt : k < ps.length
        · obtain ⟨b, o, x, y, rfl, hx, hc, hd⟩ := (h.kept hbel).at hlt
          have hw2 : b < wr.heap.size := lt_of_cell hc
          have hm := HR.out (x, y) (List.mem_of_getElem? hx.out)
          simp only at hm
          obtain ⟨g1, g2, g3, g4⟩ := hm
          have hpk := poolB_ok (ps := ps.take k) (fun p hp => HR2.out p (List.mem_of_mem_take hp))
          have hT : pushB (poolB (ps.take k)) (y, 1) = poolB (ps.take (k + 1)) := by
            rw [List.take_add_one, hx.out, Option.toList_some, poolB_snoc]
          have HN := Lib.hid hn
          have HG := Lib.hid hgk
          have HT := Lib.hid hT
          have HPK := Lib.hid hpk
          have HI := Lib.hid h
          clear h hn hgk hT hpk
          go_wp2
          obtain ⟨wo, rfl⟩ : ∃ wo : World, wo = wr := ⟨_, rfl⟩
          go_loopg [6, 10] n (fun gk sp _ wr => ∃ (r : List (Int × Int)) (s m : Int) (n cp : Nat) (Ap : Option Addr), gk = n ∧ sp = .slice Ap n cp ∧ r.length = n ∧
              wr.ownsRow (w.heap.size + 1) 85 2 (.slice Ap n cp) n (encP r.reverse) ∧ wr.cell? ⟨wo.heap.size + 1, 0, none⟩ = some (.int .i64 s) ∧ wr.cell? ⟨wo.heap.size + 1, 1, none⟩ = some (.int .i64 m) ∧
              wr.frozen? ⟨wo.heap.size + 1, 0, none⟩ = false ∧ wr.frozen? ⟨wo.heap.size + 1, 1, none⟩ = false ∧ Hid (pushB r (s, m) = poolB (ps.take (k + 1))) ∧ Hid (PoolOk ((s, m) :: r) ∧ poolN ((s, m) :: r) = k + 1) ∧
              Hid (∀ g, (Value.slice Ap n cp).ownBlock = some g → g < wo.heap.size) ∧ Below w.heap.size w wr ∧ wr.cell? ⟨w.heap.size, 0, none⟩ = some (.slice none 0 0) ∧ wr.frozen? ⟨w.heap.size, 0, none⟩ = false ∧ wo.heap.size + 1 < wr.heap.size)
          case atStart =>
            refine ⟨poolB (ps.take k), y, 1, n, cp, Ap, rfl, rfl, HN.out.symm, (hown.alloc _).alloc _, by simp [go_sem], by simp [go_sem], by simp [go_sem], by simp [go_sem], HT.out, ?_, own_old hown, (by repeat (first | assumption | exact Below.refl _ _ | refine below_drewN ?_ _ | refine Below.drew ?_ | refine Below.setCell ?_ (by first | exact Nat.le_refl _ | assumption | (simp; done) | (simp; omega) | omega) _ | refine Below.alloc ?_ (by first | exact Nat.le_refl _ | assumption | (simp; done) | omega | (simp; omega)) _)), by simp [go_sem, hw1, hbox], by simp [go_sem, hw1, hfz], by simp⟩
            refine ⟨?_, ?_⟩
            · intro c hc
              rcases List.mem_cons.1 hc with rfl | hc
              · simp only; omega
              · exact HPK.out.1 c hc
            · rw [poolN_cons, HPK.out.2, List.length_take, Nat.min_eq_left (by omega)]; simp only; omega
          case round =>
            obtain ⟨r, s, m, n, cp, Ap, rfl, rfl, hrl, hown, hs0, hs1, hf0, hf1, hpush, hpo, hsep, hbel, hbox, hfz, hw3⟩ := hrel
            have hBw := hbel.size
            have hwb : w.heap.size < wr.heap.size := by omega
            have hwb1 : w.heap.size < wr.heap.size + 1 := by omega
            cases r with
            | nil =>
              obtain rfl : gk = 0 := by simpa using hrl.symm
              go_wp2_with (at_builtin; (refine wpList_append_lies _ rfl (.tmp 112) (.tmp 114) 83 rfl (w.heap.size + 1) 85 ib (.agg #[.int .i64 0, .int .i64 0]) 2 16 Try.underlying83 HIB.out HB0.out.1 HB0.out.2.1 HB0.out.2.2 rfl (by omega) (.slice Ap 0 cp) 0 (encP ([] : List (Int × Int)).reverse) (by rfl) (hown.alloc _) ⟨wr.heap.size, 0, none⟩ 1 1 [.int .i64 s, .int .i64 m] (by rfl) rfl (news_two _ _ _ _ _ (by simp)) one_two (by omega) (by simp only [maxLen]; omega) (by omega) (by simp; omega) (wr.heap.size + 1) (by simp) ?_); intro g cap w1 hown1 hgrow hat hlt1)
              go_roundg (ps.length - (k + 1))
              case measure => have := HG.out; omega
              case rel =>
                have hp := hpush.out
                rw [pushB] at hp
                have hne : ∀ b : Nat, b < w.heap.size + 1 → (Value.slice Ap 0 cp).ownBlock ≠ some b := fun b hb he => by have := own_lt hown b he; omega
                refine ⟨k + 1, _, cap, _, by have := HG.out; omega, by go_num, rfl, by rw [← hp]; simp, ?_, ?_, ?_, ?_, ?_⟩
                · have e : encP (poolB (ps.take (k + 1))).reverse = encP ([] : List (Int × Int)).reverse ++ [.int .i64 s, .int .i64 m] := by rw [← hp, List.reverse_cons, encP_append]; rfl
                  rw [e]; exact hown1
                · exact Below.grown (by repeat (first | assumption | exact Below.refl _ _ | refine below_drewN ?_ _ | refine Below.drew ?_ | refine Below.setCell ?_ (by first | exact Nat.le_refl _ | assumption | (simp; done) | (simp; omega) | omega) _ | refine Below.alloc ?_ (by first | exact Nat.le_refl _ | assumption | (simp; done) | omega | (simp; omega)) _)) hgrow (by simp; omega) (fun b hb => by have := own_lt hown b hb; omega)
                · exact cell_grown hgrow (cell_kept (w := wr) (by repeat (first | assumption | exact Below.refl _ _ | refine below_drewN ?_ _ | refine Below.drew ?_ | refine Below.setCell ?_ (by first | exact Nat.le_refl _ | assumption | (simp; done) | (simp; omega) | omega) _ | refine Below.alloc ?_ (by first | exact Nat.le_refl _ | assumption | (simp; done) | omega | (simp; omega)) _)) hbox) (hne w.heap.size (Nat.lt_succ_self _))
                · exact frozen_grown hgrow (Nat.lt_of_lt_of_le hwb (Below.size (w := wr) (B := wr.heap.size) (by repeat (first | assumption | exact Below.refl _ _ | refine below_drewN ?_ _ | refine Below.drew ?_ | refine Below.setCell ?_ (by first | exact Nat.le_refl _ | assumption | (simp; done) | (simp; omega) | omega) _ | refine Below.alloc ?_ (by first | exact Nat.le_refl _ | assumption | (simp; done) | omega | (simp; omega)) _)))) ((Below.frozen (w := wr) (B := wr.heap.size) (by repeat (first | assumption | exact Below.refl _ _ | refine below_drewN ?_ _ | refine Below.drew ?_ | refine Below.setCell ?_ (by first | exact Nat.le_refl _ | assumption | (simp; done) | (simp; omega) | omega) _ | refine Below.alloc ?_ (by first | exact Nat.le_refl _ | assumption | (simp; done) | omega | (simp; omega)) _)) hwb).trans hfz) (hne w.heap.size (Nat.lt_succ_self _))
                · have := hgrow.size; simp at this; omega
            | cons l r =>
              obtain ⟨s2, m2⟩ := l
              obtain rfl : gk = r.length + 1 := by simpa using hrl.symm
              have hk31 : (k : Int) + 1 ≤ 31 := by omega
              obtain ⟨p1, p2, p3, p4, p5, p6, p7, p8, p9, p10, p11⟩ := pool_two hpo.out.1 hpo.out.2 hk31
              have hr31 : r.length ≤ 31 := by have := poolN_ge hpo.out.1; rw [hpo.out.2] at this; simp at this; omega
              have hlast : ((s2, m2) :: r).reverse[r.length]? = some (s2, m2) := by simp
              obtain ⟨gp, hgp, hgb, hc1, hc2⟩ := own_at hown hlast
              subst hgp
              have hgs : gp < wo.heap.size := hsep.out gp rfl
              have hgw : gp < wr.heap.size := by omega
              have hgw1 : gp < wr.heap.size + 1 := by omega
              by_cases hle : s2 * m ≤ s * m2
              · have hle' := hle
                have hle := Lib.hid hle
                clear hlast
                go_wp2_with (at_builtin; (refine wpList_append_lies _ rfl (.tmp 112) (.tmp 114) 83 rfl (w.heap.size + 1) 85 ib (.agg #[.int .i64 0, .int .i64 0]) 2 16 Try.underlying83 HIB.out HB0.out.1 HB0.out.2.1 HB0.out.2.2 rfl (by omega) (.slice (some ⟨gp, 0, none⟩) (r.length + 1) cp) (r.length + 1) (encP ((s2, m2) :: r).reverse) (by rfl) ((hown.alloc _).alloc _) ⟨(wr.heap.size + 1), 0, none⟩ 1 1 [.int .i64 s, .int .i64 m] (by rfl) rfl (news_two _ _ _ _ _ (by simp)) one_two (by omega) (by simp only [maxLen]; omega) (by omega) (by simp; omega) ((wr.heap.size + 1) + 1) (by simp) ?_); intro g cap w1 hown1 hgrow hat hlt1)
                go_roundg (ps.length - (k + 1))
                case measure => have := HG.out; omega
                case rel =>
                  have hp := hpush.out
                  rw [push_keep hle.out] at hp
                  have hne : ∀ b : Nat, b < w.heap.size + 1 → (Value.slice (some ⟨gp, 0, none⟩) (r.length + 1) cp).ownBlock ≠ some b := fun b hb he => by have := own_lt hown b he; omega
                  refine ⟨k + 1, _, cap, _, by have := HG.out; omega, by go_num, rfl, by rw [← hp]; simp, ?_, ?_, ?_, ?_, ?_⟩
                  · have e : encP (poolB (ps.take (k + 1))).reverse = encP ((s2, m2) :: r).reverse ++ [.int .i64 s, .int .i64 m] := by rw [← hp, List.reverse_cons, encP_append]; rfl
                    rw [e]; exact hown1
                  · exact Below.grown (by repeat (first | assumption | exact Below.refl _ _ | refine below_drewN ?_ _ | refine Below.drew ?_ | refine Below.setCell ?_ (by first | exact Nat.le_refl _ | assumption | (simp; done) | (simp; omega) | omega) _ | refine Below.alloc ?_ (by first | exact Nat.le_refl _ | assumption | (simp; done) | omega | (simp; omega)) _)) hgrow (by simp; omega) (fun b hb => by have := own_lt hown b hb; omega)
                  · exact cell_grown hgrow (cell_kept (w := wr) (by repeat (first | assumption | exact Below.refl _ _ | refine below_drewN ?_ _ | refine Below.drew ?_ | refine Below.setCell ?_ (by first | exact Nat.le_refl _ | assumption | (simp; done) | (simp; omega) | omega) _ | refine Below.alloc ?_ (by first | exact Nat.le_refl _ | assumption | (simp; done) | omega | (simp; omega)) _)) hbox) (hne w.heap.size (Nat.lt_succ_self _))
                  · exact frozen_grown hgrow (Nat.lt_of_lt_of_le hwb (Below.size (w := wr) (B := wr.heap.size) (by repeat (first | assumption | exact Below.refl _ _ | refine below_drewN ?_ _ | refine Below.drew ?_ | refine Below.setCell ?_ (by first | exact Nat.le_refl _ | assumption | (simp; done) | (simp; omega) | omega) _ | refine Below.alloc ?_ (by first | exact Nat.le_refl _ | assumption | (simp; done) | omega | (simp; omega)) _)))) ((Below.frozen (w := wr) (B := wr.heap.size) (by repeat (first | assumption | exact Below.refl _ _ | refine below_drewN ?_ _ | refine Below.drew ?_ | refine Below.setCell ?_ (by first | exact Nat.le_refl _ | assumption | (simp; done) | (simp; omega) | omega) _ | refine Below.alloc ?_ (by first | exact Nat.le_refl _ | assumption | (simp; done) | omega | (simp; omega)) _)) hwb).trans hfz) (hne w.heap.size (Nat.lt_succ_self _))
                  · have := hgrow.size; simp at this; omega
              · have hle' : s * m2 < s2 * m := by omega
                have HL := Lib.hid hle
                have hmg := Lib.hid (pool_merge hpo.out.1)
                have hpop : wr.ownsRow (w.heap.size + 1) 85 2 (.slice (some ⟨gp, 0, none⟩) r.length cp) r.length (encP r.reverse) := by
                  refine ownsRow_pop (last := encP [(s2, m2)]) (by rw [encP_length]; simp) ?_
                  rw [← encP_append, ← List.reverse_cons]; exact hown
                have hcap := own_cap hown
                have HPOP := Lib.hid hpop
                have HOWN := Lib.hid hown
                clear hle hlast hpop hown
                have hne1 : gp ≠ wo.heap.size + 1 := by omega
                go_wp2
                go_roundg r.length
                case measure => omega
                case rel =>
                  refine ⟨r, s2 + s, m2 + m, r.length, cp, some ⟨gp, 0, none⟩, rfl, rfl, rfl, ?_, ?_, ?_, ?_, ?_, ?_, ?_, ?_, ?_, ?_, ?_, ?_⟩
                  · exact (own_set (own_set HPOP.out (by simp [Value.ownBlock]; omega) _) (by simp [Value.ownBlock]; omega) _).alloc _
                  · simp [go_sem, hs0, hw3]
                  · simp [go_sem, hs1, hw3]
                  · simp [go_sem, hf0, hw3]
                  · simp [go_sem, hf1, hw3]
                  · have := hpush.out
                    rw [push_join (Int.not_le.2 HL.out)] at this
                    exact this
                  · exact ⟨hmg.out.1, hmg.out.2.trans hpo.out.2⟩
                  · exact fun g hg => by simp [Value.ownBlock] at hg; omega
                  · exact (by repeat (first | assumption | exact Below.refl _ _ | refine below_drewN ?_ _ | refine Below.drew ?_ | refine Below.setCell ?_ (by first | exact Nat.le_refl _ | assumption | (simp; done) | (simp; omega) | omega) _ | refine Below.alloc ?_ (by first | exact Nat.le_refl _ | assumption | (simp; done) | omega | (simp; omega)) _))
                  · simp [go_sem, hbox, hwb]
                  · simp [go_sem, hfz, hwb]
                  · simp; omega
        · obtain rfl : k = ps.length := by omega
          rw [List.take_length] at hn hown
          have hpk := poolB_ok HR2.out
          obtain ⟨hz1, hz2⟩ := fitZ_length HR2.out
          obtain ⟨P, hP⟩ : ∃ P, P = (poolB ps).reverse := ⟨_, rfl⟩
          have hPn : n = P.length := by rw [hP, List.length_reverse]; exact hn
          have hPok : PoolOk P := by rw [hP]; exact poolOk_reverse hpk.1
          have hPsum : poolN P = ps.length := by rw [hP, poolN_reverse]; exact hpk.2
          have hPle : P.length ≤ 31 := by have := poolN_ge hPok; omega
          rw [← hP] at hown hz1
          have HP := Lib.hid hP
          have HPO := Lib.hid hPok
          have HPS := Lib.hid hPsum
          have HZ1 := Lib.hid hz1
          have HZ2 := Lib.hid hz2
          have HPK := Lib.hid hpk
          clear hP hPok hPsum hz1 hz2 hpk hn hgk
          subst hPn
          go_wp2
          go_loopg [11, 12, 14, 15, 119] P.length (fun gk sl si _ _ idx wr => ∃ (k i cl : Nat) (Al : Option Addr), k + gk = P.length ∧ idx = .int .i64 k ∧ si = .int .i64 i ∧ sl = .slice Al i cl ∧ Hid (i = (valsB (P.take k)).length) ∧
              wr.ownsRow (w.heap.size + 1) 66 2 (.slice Al i cl) i (encP ((fitZ ps).take i)) ∧ wr.ownsRow (w.heap.size + 1) 85 2 (.slice Ap P.length cp) P.length (encP P) ∧
              Below w.heap.size w wr ∧ wr.cell? ⟨w.heap.size, 0, none⟩ = some (.slice none 0 0) ∧ wr.frozen? ⟨w.heap.size, 0, none⟩ = false ∧ w.heap.size < wr.heap.size)
          case atStart => exact ⟨0, 0, 0, none, by omega, rfl, rfl, rfl, rfl, by rw [List.take_zero]; exact World.ownsRow_nil _ _ _ _, hown, hbel, hbox, hfz, hw1⟩
          case round =>
            obtain ⟨k, i, cl, Al, hgk, rfl, rfl, rfl, hi, hownl, hown, hbel, hbox, hfz, hw1⟩ := hrel
            have hBw := hbel.size
            by_cases hlt : k < P.length
            · obtain ⟨⟨s, m⟩, hsm⟩ : ∃ p, P[k]? = some p := ⟨_, List.getElem?_eq_getElem hlt⟩
              obtain ⟨gp, rfl, hgb, hc1, hc2⟩ := own_at hown hsm
              have hgw : gp < wr.heap.size := lt_of_cell hc1
              have hmem := HPO.out (s, m) (List.mem_of_getElem? hsm)
              simp only at hmem
              have hvt := valsB_take hsm
              have hvl := valsB_take_le (bs := P) (k + 1)
              rw [HZ1.out] at hvl
              rw [hvt, ← hi.out] at hvl
              have hm31 : m ≤ 31 := by omega
              obtain ⟨mN, rfl⟩ := Int.eq_ofNat_of_zero_le (show 0 ≤ m by omega)
              rw [Int.toNat_natCast] at hvl hvt
              obtain ⟨q1, q2, q3⟩ := hmem
              have HSM := Lib.hid hsm
              have HVT := Lib.hid hvt
              have HG := Lib.hid hgk
              clear hsm hvt hgk
              go_wp2_with (go_at_call 54; refine (nearest_any _ _ _ (by omega) (by omega) (by omega) (by omega)).mono ?_; rintro e w' ⟨rfl, rfl⟩)
              obtain ⟨wo, rfl⟩ : ∃ wo : World, wo = wr := ⟨_, rfl⟩
              go_loopg [11, 12, 130] mN (fun gk sl si idx wr => ∃ (j t cl : Nat) (Al : Option Addr), j + gk = mN ∧ t = i + j ∧ idx = .int .i64 j ∧ si = .int .i64 t ∧ sl = .slice Al t cl ∧
                  wr.ownsRow (w.heap.size + 1) 66 2 (.slice Al t cl) t (encP ((fitZ ps).take t)) ∧ wr.ownsRow (w.heap.size + 1) 85 2 (.slice (some ⟨gp, 0, none⟩) P.length cp) P.length (encP P) ∧
                  Below w.heap.size w wr ∧ wr.cell? ⟨w.heap.size, 0, none⟩ = some (.slice none 0 0) ∧ wr.frozen? ⟨w.heap.size, 0, none⟩ = false ∧ w.heap.size < wr.heap.size)
              case atStart => exact ⟨0, i, cl, Al, by omega, rfl, rfl, rfl, rfl, hownl.alloc _, hown.alloc _, (by repeat (first | assumption | exact Below.refl _ _ | refine below_drewN ?_ _ | refine Below.drew ?_ | refine Below.setCell ?_ (by first | exact Nat.le_refl _ | assumption | (simp; done) | (simp; omega) | omega) _ | refine Below.alloc ?_ (by first | exact Nat.le_refl _ | assumption | (simp; done) | omega | (simp; omega)) _)), by simp [go_sem, hbox, hw1], by simp [go_sem, hfz, hw1], by simp; omega⟩
              case round =>
                obtain ⟨j, t, cl, Al, hgk, rfl, rfl, rfl, rfl, hownl, hown, hbel, hbox, hfz, hw1⟩ := hrel
                have hBw := hbel.size
                by_cases hlj : j < mN
                · obtain ⟨b, o, x, y, rfl, hx, hc, hd⟩ := (h.kept hbel).at (i := i + j) (by omega)
                  have hw2 : b < wr.heap.size := lt_of_cell hc
                  have hZ := fitZ_at (ps := ps) (k := k) (j := j) (s := s) (n := mN) (x := x) (y := y) (by rw [← HP.out]; exact HSM.out) (by omega) (by rw [← HP.out, ← hi.out]; exact hx.out)
                  rw [← HP.out, ← hi.out] at hZ
                  have HZ := Lib.hid hZ
                  have HG2 := Lib.hid hgk
                  have HH := Lib.hid h
                  have hne : ∀ b : Nat, b < w.heap.size + 1 → (Value.slice Al (i + j) cl).ownBlock ≠ some b := fun b hb he => by have := own_lt hownl b he; omega
                  have HNE := Lib.hid hne
                  clear hZ hgk h hne
                  go_wp2_with (at_builtin; refine wpList_append_lies _ rfl (.tmp 132) (.tmp 140) 47 rfl (w.heap.size + 1) 66 ip (.agg #[.int .i64 0, .int .i64 0]) 2 16 Try.underlying47 HIP.out HP0.out.1 HP0.out.2.1 HP0.out.2.2 rfl (by omega) (.slice Al (i + j) cl) (i + j) (encP ((fitZ ps).take (i + j))) (by rfl) (hownl.alloc _) ⟨wr.heap.size, 0, none⟩ 1 1 [.int .i64 x, .int .i64 (rnd s mN)] (by rfl) rfl (news_two _ _ _ _ _ rfl) one_two (by omega) (by simp only [maxLen]; omega) (by omega) (by simp; omega) (wr.heap.size + 1) (by simp) ?_; intro g cap w1 hown1 hgrow hat hlt1)
                  go_roundg (gk - 1)
                  case measure => have := HG2.out; omega
                  case rel =>
                    refine ⟨j + 1, i + j + 1, cap, _, by have := HG2.out; omega, by omega, by go_num, by go_num, rfl, ?_, (hown.alloc _).kept hgrow (own_ne hown hownl (by decide)), ?_, ?_, ?_, ?_⟩
                    · have e : encP ((fitZ ps).take (i + j + 1)) = encP ((fitZ ps).take (i + j)) ++ [.int .i64 x, .int .i64 (rnd s mN)] := by rw [List.take_add_one, HZ.out, encP_append]; rfl
                      rw [e]; exact hown1
                    · exact Below.grown (by repeat (first | assumption | exact Below.refl _ _ | refine below_drewN ?_ _ | refine Below.drew ?_ | refine Below.setCell ?_ (by first | exact Nat.le_refl _ | assumption | (simp; done) | (simp; omega) | omega) _ | refine Below.alloc ?_ (by first | exact Nat.le_refl _ | assumption | (simp; done) | omega | (simp; omega)) _)) hgrow (by simp; omega) (fun b hb => by have := own_lt hownl b hb; omega)
                    · exact cell_grown hgrow (cell_kept (w := wr) (by repeat (first | assumption | exact Below.refl _ _ | refine below_drewN ?_ _ | refine Below.drew ?_ | refine Below.setCell ?_ (by first | exact Nat.le_refl _ | assumption | (simp; done) | (simp; omega) | omega) _ | refine Below.alloc ?_ (by first | exact Nat.le_refl _ | assumption | (simp; done) | omega | (simp; omega)) _)) hbox) (HNE.out w.heap.size (Nat.lt_succ_self _))
                    · exact frozen_grown hgrow (Nat.lt_of_lt_of_le hw1 (Below.size (w := wr) (B := wr.heap.size) (by repeat (first | assumption | exact Below.refl _ _ | refine below_drewN ?_ _ | refine Below.drew ?_ | refine Below.setCell ?_ (by first | exact Nat.le_refl _ | assumption | (simp; done) | (simp; omega) | omega) _ | refine Below.alloc ?_ (by first | exact Nat.le_refl _ | assumption | (simp; done) | omega | (simp; omega)) _)))) ((Below.frozen (w := wr) (B := wr.heap.size) (by repeat (first | assumption | exact Below.refl _ _ | refine below_drewN ?_ _ | refine Below.drew ?_ | refine Below.setCell ?_ (by first | exact Nat.le_refl _ | assumption | (simp; done) | (simp; omega) | omega) _ | refine Below.alloc ?_ (by first | exact Nat.le_refl _ | assumption | (simp; done) | omega | (simp; omega)) _)) hw1).trans hfz) (HNE.out w.heap.size (Nat.lt_succ_self _))
                    · have := hgrow.size; simp at this; omega
                · obtain rfl : j = mN := by omega
                  clear hgk
                  go_wp2
                  go_roundg (P.length - (k + 1))
                  case measure => have := HG.out; omega
                  case rel => exact ⟨k + 1, i + j, cl, Al, by have := HG.out; omega, by go_num, rfl, rfl, (show i + j = (valsB (P.take (k + 1))).length by rw [HVT.out, ← hi.out]), hownl, hown, hbel, hbox, hfz, hw1⟩
            · obtain rfl : k = P.length := by omega
              have hi' := hi.out
              rw [List.take_length, HZ1.out] at hi'
              subst hi'
              rw [List.take_of_length_le (by rw [HZ2.out]; omega)] at hownl
              obtain ⟨⟨x0, y0⟩, hz0⟩ : ∃ p, (fitZ ps)[0]? = some p := ⟨_, List.getElem?_eq_getElem (by rw [HZ2.out]; omega)⟩
              obtain ⟨gl, rfl, hgl, hl1, hl2⟩ := own_at hownl hz0
              simp only [Nat.zero_mul] at hl1 hl2
              have hglw : gl < wr.heap.size := lt_of_cell hl1
              have HZ0 := Lib.hid hz0
              have hcl := own_cap hownl
              clear hz0 hgk hlt
              go_upto_if 151 with fail
              go_cut [11] from 18 to 174 (fun sl wx => ∃ (g n cl : Nat) (L1 : List (Int × Int)), sl = .slice (some ⟨g, 0, none⟩) n cl ∧ Hid (L1 = if 0 < x0 then (0, y0) :: fitZ ps else fitZ ps) ∧ n = L1.length ∧ 1 ≤ n ∧ n ≤ 32 ∧
                  wx.ownsRow (w.heap.size + 1) 66 2 (.slice (some ⟨g, 0, none⟩) n cl) n (encP L1) ∧ Below w.heap.size w wx ∧ wx.cell? ⟨w.heap.size, 0, none⟩ = some (.slice none 0 0) ∧ wx.frozen? ⟨w.heap.size, 0, none⟩ = false ∧ w.heap.size < wx.heap.size)
              case first =>
                by_cases hx0 : 0 < x0
                · have HX := Lib.hid hx0
                  go_wp2_with (at_builtin; refine wpList_append_lies _ rfl (.tmp 155) (.tmp 156) 47 rfl (w.heap.size + 1) 66 ip (.agg #[.int .i64 0, .int .i64 0]) 2 16 Try.underlying47 HIP.out HP0.out.1 HP0.out.2.1 HP0.out.2.2 rfl (by omega) (.slice (some ⟨wr.heap.size + 1, 0, none⟩) 1 1) 1 [.int .i64 0, .int .i64 y0] (by rfl) (own_new2 _ _ _ _ _ _ (by simp) (by omega)) ⟨gl, 0, none⟩ ps.length cl (encP (fitZ ps)) (by rfl) (by rw [encP_length, HZ2.out]) (own_news ((hownl.alloc _).alloc _)) encP_one (by omega) (by simp only [maxLen]; omega) (by omega) (by simp; omega) (wr.heap.size + 1 + 1) (by simp) ?_; intro g2 cap w1 hown1 hgrow hat hlt1)
                  go_wp2_with fail
                  go_meet
                  case rel =>
                    refine ⟨g2, 1 + ps.length, cap, (0, y0) :: fitZ ps, rfl, (if_pos HX.out).symm, by simp [HZ2.out]; omega, by omega, by omega, hown1, ?_, ?_, ?_, ?_⟩
                    · exact Below.grown (by repeat (first | assumption | exact Below.refl _ _ | refine below_drewN ?_ _ | refine Below.drew ?_ | refine Below.setCell ?_ (by first | exact Nat.le_refl _ | assumption | (simp; done) | (simp; omega) | omega) _ | refine Below.alloc ?_ (by first | exact Nat.le_refl _ | assumption | (simp; done) | omega | (simp; omega)) _)) hgrow (by simp; omega) (fun b hb => by simp [Value.ownBlock] at hb; omega)
                    · exact cell_grown hgrow (cell_kept (w := wr) (by repeat (first | assumption | exact Below.refl _ _ | refine below_drewN ?_ _ | refine Below.drew ?_ | refine Below.setCell ?_ (by first | exact Nat.le_refl _ | assumption | (simp; done) | (simp; omega) | omega) _ | refine Below.alloc ?_ (by first | exact Nat.le_refl _ | assumption | (simp; done) | omega | (simp; omega)) _)) hbox) (by simp [Value.ownBlock]; omega)
                    · exact frozen_grown hgrow (Nat.lt_of_lt_of_le hw1 (Below.size (w := wr) (B := wr.heap.size) (by repeat (first | assumption | exact Below.refl _ _ | refine below_drewN ?_ _ | refine Below.drew ?_ | refine Below.setCell ?_ (by first | exact Nat.le_refl _ | assumption | (simp; done) | (simp; omega) | omega) _ | refine Below.alloc ?_ (by first | exact Nat.le_refl _ | assumption | (simp; done) | omega | (simp; omega)) _)))) ((Below.frozen (w := wr) (B := wr.heap.size) (by repeat (first | assumption | exact Below.refl _ _ | refine below_drewN ?_ _ | refine Below.drew ?_ | refine Below.setCell ?_ (by first | exact Nat.le_refl _ | assumption | (simp; done) | (simp; omega) | omega) _ | refine Below.alloc ?_ (by first | exact Nat.le_refl _ | assumption | (simp; done) | omega | (simp; omega)) _)) hw1).trans hfz) (by simp [Value.ownBlock]; omega)
                    · have := hgrow.size; simp at this; omega
                · have hx0' : x0 ≤ 0 := by omega
                  go_wp2_with fail
                  go_meet
                  case rel =>
                    exact ⟨gl, ps.length, cl, fitZ ps, rfl, (if_neg (Int.not_lt.2 hx0')).symm, HZ2.out.symm, by omega, by omega, hownl.alloc _, (by repeat (first | assumption | exact Below.refl _ _ | refine below_drewN ?_ _ | refine Below.drew ?_ | refine Below.setCell ?_ (by first | exact Nat.le_refl _ | assumption | (simp; done) | (simp; omega) | omega) _ | refine Below.alloc ?_ (by first | exact Nat.le_refl _ | assumption | (simp; done) | omega | (simp; omega)) _)), by simp [go_sem, hbox, hw1], by simp [go_sem, hfz, hw1], by simp; omega⟩
              case rest =>
                obtain ⟨g, n, cl2, L1, rfl, hL1, rfl, hn1, hn2, hown2, hbel2, hbox2, hfz2, hw2⟩ := hcut
                obtain ⟨⟨u, v⟩, huv⟩ : ∃ p, L1[L1.length - 1]? = some p := ⟨_, List.getElem?_eq_getElem (by omega)⟩
                have hF := fitL_is HZ0.out hL1.out huv
                obtain ⟨g', hg', hgb', hu1, hu2⟩ := own_at hown2 huv
                obtain rfl : g = g' := by injection hg' with hg'; injection hg'
                have hgw' : g < wc.heap.size := lt_of_cell hu1
                have k1 : (1 : Int) ≤ (L1.length : Int) := by omega
                have k2 : (L1.length : Int) ≤ 32 := by omega
                have hcl2 := own_cap hown2
                clear huv hg' hownl hown hbel hbox hfz hw1 hl1 hl2 hglw
                by_cases hu : u < 65280
                · rw [if_pos hu] at hF
                  have HF := Lib.hid hF
                  clear hF
                  go_wp2_with (at_builtin; refine wpList_append_lies _ rfl (.tmp 167) (.tmp 171) 47 rfl (w.heap.size + 1) 66 ip (.agg #[.int .i64 0, .int .i64 0]) 2 16 Try.underlying47 HIP.out HP0.out.1 HP0.out.2.1 HP0.out.2.2 rfl (by omega) (.slice (some ⟨g, 0, none⟩) L1.length cl2) L1.length (encP L1) (by rfl) ((hown2.alloc _).alloc _) ⟨wc.heap.size + 1, 0, none⟩ 1 1 [.int .i64 65280, .int .i64 v] (by rfl) rfl (news_two _ _ _ _ _ (by simp)) one_two (by omega) (by simp only [maxLen]; omega) (by omega) (by simp; omega) (wc.heap.size + 1 + 1) (by simp) ?_; intro g2 cap w1 hown1 hgrow hat hlt1; have hbx1 := cell_grown hgrow (cell_kept (w := wc) (by repeat (first | assumption | exact Below.refl _ _ | refine below_drewN ?_ _ | refine Below.drew ?_ | refine Below.setCell ?_ (by first | exact Nat.le_refl _ | assumption | (simp; done) | (simp; omega) | omega) _ | refine Below.alloc ?_ (by first | exact Nat.le_refl _ | assumption | (simp; done) | omega | (simp; omega)) _)) hbox2) (by simp [Value.ownBlock]; omega); have hfz1 := frozen_grown hgrow (Nat.lt_of_lt_of_le hw2 (Below.size (w := wc) (B := wc.heap.size) (by repeat (first | assumption | exact Below.refl _ _ | refine below_drewN ?_ _ | refine Below.drew ?_ | refine Below.setCell ?_ (by first | exact Nat.le_refl _ | assumption | (simp; done) | (simp; omega) | omega) _ | refine Below.alloc ?_ (by first | exact Nat.le_refl _ | assumption | (simp; done) | omega | (simp; omega)) _)))) ((Below.frozen (w := wc) (B := wc.heap.size) (by repeat (first | assumption | exact Below.refl _ _ | refine below_drewN ?_ _ | refine Below.drew ?_ | refine Below.setCell ?_ (by first | exact Nat.le_refl _ | assumption | (simp; done) | (simp; omega) | omega) _ | refine Below.alloc ?_ (by first | exact Nat.le_refl _ | assumption | (simp; done) | omega | (simp; omega)) _)) hw2).trans hfz2) (by simp [Value.ownBlock]; omega))
                  refine bodyPost_ret (v := .tuple #[.agg #[.slice (some ⟨g2, 0, none⟩) (L1.length + 1) cap], .int .i64 0]) (by simp [results, Try.results47, go_sem, hbx1]) rfl ?_
                  rw [HF.out]
                  have hs1 : w1.ownsRow (w.heap.size + 1) 66 2 (.slice (some ⟨g2, 0, none⟩) (L1.length + 1) cap) (L1.length + 1) (encP (L1 ++ [(65280, v)])) := by rw [encP_append]; exact hown1
                  have hg2 : w.heap.size + 1 ≤ g2 := own_lt hs1 g2 rfl
                  refine ⟨some ⟨g2, 0, none⟩, cap, by simp, own_pts (own_set hs1 (by simp [Value.ownBlock]; omega) _), Below.setCell (p := ⟨w.heap.size, 0, none⟩) (Below.grown (B := w.heap.size) (by repeat (first | assumption | exact Below.refl _ _ | refine below_drewN ?_ _ | refine Below.drew ?_ | refine Below.setCell ?_ (by first | exact Nat.le_refl _ | assumption | (simp; done) | (simp; omega) | omega) _ | refine Below.alloc ?_ (by first | exact Nat.le_refl _ | assumption | (simp; done) | omega | (simp; omega)) _)) hgrow (by simp; omega) (fun b hb => by simp [Value.ownBlock] at hb; omega)) (Nat.le_refl _) _⟩
                · rw [if_neg hu] at hF
                  have HF := Lib.hid hF
                  have hu' : 65280 ≤ u := by omega
                  have HU := Lib.hid hu
                  clear hF hu
                  go_wp2
                  refine bodyPost_ret (v := .tuple #[.agg #[.slice (some ⟨g, 0, none⟩) L1.length cl2], .int .i64 0]) (by simp [results, Try.results47, go_sem, hbox2, hw2]) rfl ?_
                  rw [HF.out]
                  refine ⟨some ⟨g, 0, none⟩, cl2, rfl, own_pts ((own_set hown2 (by simp [Value.ownBlock]; omega) _).alloc _), (by repeat (first | assumption | exact Below.refl _ _ | refine below_drewN ?_ _ | refine Below.drew ?_ | refine Below.setCell ?_ (by first | exact Nat.le_refl _ | assumption | (simp; done) | (simp; omega) | omega) _ | refine Below.alloc ?_ (by first | exact Nat.le_refl _ | assumption | (simp; done) | omega | (simp; omega)) _))⟩
end Go.Proofs.Ytlbnicapkfmdoaa
