/- Walk of Predict, the two loops. -/
import Derived.Test.YtlbnicapkfmdoaaOver6
import Derived.Test.YtlbnicapkfmdoaaPairs
namespace Go.Proofs.Ytlbnicapkfmdoaa
open Go.RowKit

theorem mul_bd2 {p x P m : Int} (h0 : 0 ≤ p) (h1 : p ≤ P) (h2 : -m ≤ x) (h3 : x ≤ m) : -(P * m) ≤ p * x ∧ p * x ≤ P * m := by
  have hm : 0 ≤ m := by omega
  have a1 := Int.mul_le_mul_of_nonneg_left h3 h0
  have a2 := Int.mul_le_mul_of_nonneg_left h2 h0
  have a3 := Int.mul_le_mul_of_nonneg_right h1 hm
  rw [Int.mul_neg] at a2
  omega
theorem take_sum {l : List Int} {k : Nat} {y : Int} (h : l[k]? = some y) : (l.take (k + 1)).sum = (l.take k).sum + y := by
  rw [List.take_add_one, h, List.sum_append]; simp
theorem take_le {l : List Int} (h : ∀ x ∈ l, 0 ≤ x) (k : Nat) : (l.take k).sum ≤ l.sum := by
  have : 0 ≤ (l.drop k).sum := by
    have hd : ∀ x ∈ l.drop k, 0 ≤ x := fun x hx => h x (List.mem_of_mem_drop hx)
    generalize l.drop k = m at hd
    induction m with
    | nil => simp
    | cons a m ih =>
      have := hd a (by simp)
      have := ih (fun x hx => hd x (by simp [hx]))
      simp; omega
  have e := List.sum_append (l₁ := l.take k) (l₂ := l.drop k)
  rw [List.take_append_drop] at e
  omega
/-- a weighted sum so far is bounded by the weights so far -/
def DotOk (D S : Int) : Prop := -(12800 * S) ≤ D ∧ D ≤ 12800 * S
theorem dotOk_succ {D S y x : Int} (h : DotOk D S) (hy : 0 ≤ y) (h2 : -12800 ≤ x) (h3 : x ≤ 12800) : DotOk (D + y * x) (S + y) ∧ -(y * 12800) ≤ y * x ∧ y * x ≤ y * 12800 := by
  obtain ⟨a, b⟩ := h
  obtain ⟨m1, m2⟩ := mul_bd2 (p := y) (P := y) hy (Int.le_refl _) h2 h3
  unfold DotOk
  omega
theorem dot_at {ls : List (Int × Int × Int)} {ws : List Int} {k : Nat} {y : Int} {p : Int × Int × Int} (f : Int × Int × Int → Int) (h : ls[k]? = some p) (hy : ws[k]? = some y) : dotK ls ws f (k + 1) = dotK ls ws f k + y * f p := by
  rw [dotK_succ, List.getD_eq_getElem?_getD, List.getD_eq_getElem?_getD, h, hy]
  rfl
set_option maxRecDepth 20000 in
set_option maxHeartbeats 16000000 in
theorem predict_loop {A B : Option Addr} {ls : List (Int × Int × Int)} {ts : List Int} {ca cb : Nat} {p0 p1 p2 q : Int} (w : World) (hA : Labs w A ls) (hB : Ints w B ts) (hl : ts.length ≤ maxLen)
    (he : checkE ts = 0) (hlen : ls.length = 2 ^ ts.length) (hF : predF ls ts = ((p0, p1, p2), q)) :
    Calls Try.prog 29 #[.slice A ls.length ca, .slice B ts.length cb] w fun e w' => e = .returned (.tuple #[.agg #[.int .i64 p0, .int .i64 p1, .int .i64 p2], .int .i64 q]) ∧ Below w.heap.size w w' := by
  obtain ⟨hn1, hn2, ht⟩ := checkE_ok he
  have hls : ls.length ≤ 64 := by
    have : 2 ^ ts.length ≤ 2 ^ 6 := Nat.pow_le_pow_right (by omega) hn1
    omega
  have x1 : (checkE ts != 0) = false := by simp [he]
  have hsh : ((ls.length : Int) != wrap64 (2 ^ ts.length)) = false := by
    have e : (2 : Int) ^ ts.length = (ls.length : Int) := by rw [hlen]; simp
    rw [e]
    have : wrap64 (ls.length : Int) = ls.length := by unfold wrap64; omega
    rw [this]; simp
  have HT := Lib.hid ht
  have HL := Lib.hid hlen
  have HE := Lib.hid he
  have HF := Lib.hid hF
  clear he hlen hF ht
  have hb1 : Below w.heap.size w (w.alloc (.cells #[.int .i64 0, .int .i64 0, .int .i64 0] 41)) := (by repeat (first | assumption | exact Below.refl _ _ | refine below_drewN ?_ _ | refine Below.drew ?_ | refine Below.setCell ?_ (by first | exact Nat.le_refl _ | assumption | (simp; done) | (simp; omega) | omega) _ | refine Below.alloc ?_ (by first | exact Nat.le_refl _ | assumption | (simp; done) | omega | exact Below.size (by assumption) | (simp; omega)) _))
  have hA1 := hA.kept hb1
  have HAW := Lib.hid hA
  have hB1 := hB.kept hb1
  have z0 : (w.alloc (.cells #[.int .i64 0, .int .i64 0, .int .i64 0] 41)).cell? ⟨w.heap.size, 0, none⟩ = some (.int .i64 0) := by simp [go_sem]
  have z1 : (w.alloc (.cells #[.int .i64 0, .int .i64 0, .int .i64 0] 41)).cell? ⟨w.heap.size, 1, none⟩ = some (.int .i64 0) := by simp [go_sem]
  have z2 : (w.alloc (.cells #[.int .i64 0, .int .i64 0, .int .i64 0] 41)).cell? ⟨w.heap.size, 2, none⟩ = some (.int .i64 0) := by simp [go_sem]
  have fz0 : (w.alloc (.cells #[.int .i64 0, .int .i64 0, .int .i64 0] 41)).frozen? ⟨w.heap.size, 0, none⟩ = false := by simp [go_sem]
  have fz1 : (w.alloc (.cells #[.int .i64 0, .int .i64 0, .int .i64 0] 41)).frozen? ⟨w.heap.size, 1, none⟩ = false := by simp [go_sem]
  have fz2 : (w.alloc (.cells #[.int .i64 0, .int .i64 0, .int .i64 0] 41)).frozen? ⟨w.heap.size, 2, none⟩ = false := by simp [go_sem]
  go_enter Try.func29, Try.ntmps29
  go_wp2_with (go_at_call 58; refine (ocheck_any _ hl hB1).mono ?_; rintro e w' ⟨rfl, rfl⟩)
  go_loopg [29] ls.length (fun gk i wr => ∃ k : Nat, k + gk = ls.length ∧ i = .int .i64 k ∧ Below (w.alloc (.cells #[.int .i64 0, .int .i64 0, .int .i64 0] 41)).heap.size (w.alloc (.cells #[.int .i64 0, .int .i64 0, .int .i64 0] 41)) wr ∧ Hid ((ls.take k).all lab0 = true))
  case atStart => exact ⟨0, by omega, rfl, Below.refl _ _, rfl⟩
  case round =>
    obtain ⟨k, hgk, rfl, hbel, hall⟩ := hrel
    have z0 := cell_kept hbel z0
    have z1 := cell_kept hbel z1
    have z2 := cell_kept hbel z2
    have fz0 := (hbel.frozen (by simp)).trans fz0
    have fz1 := (hbel.frozen (by simp)).trans fz1
    have fz2 := (hbel.frozen (by simp)).trans fz2
    have hA2 := hA1.kept hbel
    have hB2 := hB1.kept hbel
    have hbw : Below w.heap.size w wr := hb1.trans (hbel.mono hb1.size)
    clear hA1 hB1 hA hB hb1
    have hsz := lt_of_cell z0
    by_cases hlt : k < ls.length
    · obtain ⟨b1, o1, x, y, z, rfl, hx, c0, c1, c2⟩ := hA2.at hlt
      have hk0 : (0 : Int) ≤ (k : Int) := by omega
      have hk1 : (k : Int) < (ls.length : Int) := by omega
      have HA2 := Lib.hid hA2
      have HB2 := Lib.hid hB2
      have HG := Lib.hid hgk
      clear hA2 hB2 hgk
      rcases labE_cases x y z with h | h
      · have x2 : (labE x y z != 0) = false := by simp [h]
        have hall' := Lib.hid (show (ls.take (k + 1)).all lab0 = true by
          rw [List.take_add_one, hx.out]
          simp [hall.out, lab0, h])
        clear h
        go_wp2_with (go_at_call 60; refine (labcheck_any _ _ _ _).mono ?_; rintro e wa ⟨rfl, hb⟩)
        go_roundg (gk - 1)
        case measure => have := HG.out; omega
        case rel => exact ⟨k + 1, by have := HG.out; omega, by go_num, Below.trans (show Below (w.alloc (.cells #[.int .i64 0, .int .i64 0, .int .i64 0] 41)).heap.size (w.alloc (.cells #[.int .i64 0, .int .i64 0, .int .i64 0] 41)) (wr.alloc (.cells #[.int .i64 x, .int .i64 y, .int .i64 z] 41)) from hbel.alloc (by simp; omega) _) (hb.mono (by simp; omega)), hall'⟩
      · have x2 : (labE x y z != 0) = true := by simp [h]
        have hG := Lib.hid (show (((0, 0, 0) : Int × Int × Int), (3 : Int)) = ((p0, p1, p2), q) by
          have hna : ls.all lab0 = false := by
            rw [Bool.eq_false_iff]
            intro ha
            have := List.all_eq_true.1 ha (x, y, z) (List.mem_of_getElem? hx.out)
            simp [lab0, h] at this
          have := HF.out
          unfold predF at this
          rw [HE.out, if_neg (by decide), if_neg (by rw [HL.out]; simp), hna, if_neg (by decide)] at this
          exact this)
        have X3 := Lib.hid h
        clear h
        go_wp2_with (go_at_call 60; refine (labcheck_any _ _ _ _).mono ?_; rintro e wa ⟨rfl, hb⟩; have z0 := cell_kept1 hb z0; have z1 := cell_kept1 hb z1; have z2 := cell_kept1 hb z2; have fz0 := (hb.frozen (by simp; omega)).trans (show (wr.alloc (.cells #[.int .i64 x, .int .i64 y, .int .i64 z] 41)).frozen? ⟨w.heap.size, 0, none⟩ = false by simp [go_sem, *]); have fz1 := (hb.frozen (by simp; omega)).trans (show (wr.alloc (.cells #[.int .i64 x, .int .i64 y, .int .i64 z] 41)).frozen? ⟨w.heap.size, 1, none⟩ = false by simp [go_sem, *]); have fz2 := (hb.frozen (by simp; omega)).trans (show (wr.alloc (.cells #[.int .i64 x, .int .i64 y, .int .i64 z] 41)).frozen? ⟨w.heap.size, 2, none⟩ = false by simp [go_sem, *]))
        have hg := hG.out
        simp only [Prod.mk.injEq] at hg
        obtain ⟨⟨rfl, rfl, rfl⟩, rfl⟩ := hg
        have hba : Below w.heap.size w wa := Below.trans (show Below w.heap.size w (wr.alloc (.cells #[.int .i64 x, .int .i64 y, .int .i64 z] 41)) from hbw.alloc hbw.size _) (hb.mono (by simp; omega))
        refine bodyPost_ret (v := .tuple #[.agg #[.int .i64 0, .int .i64 0, .int .i64 0], .int .i64 3]) (by rw [← X3.out]; simp [results, Try.results29, go_sem, *]) rfl ?_
        exact ⟨rfl, (by repeat (first | assumption | exact Below.refl _ _ | refine below_drewN ?_ _ | refine Below.drew ?_ | refine Below.setCell ?_ (by first | exact Nat.le_refl _ | assumption | (simp; done) | (simp; omega) | omega) _ | refine Below.alloc ?_ (by first | exact Nat.le_refl _ | assumption | (simp; done) | omega | exact Below.size (by assumption) | (simp; omega)) _))⟩
    · obtain rfl : k = ls.length := by omega
      have hG := Lib.hid (show ((predC ls ts (·.1), predC ls ts (·.2.1), predC ls ts (·.2.2)), (0 : Int)) = ((p0, p1, p2), q) by
        have ha := hall.out
        rw [List.take_length] at ha
        have := HF.out
        unfold predF at this
        rw [HE.out, if_neg (by decide), if_neg (by rw [HL.out]; simp), if_pos ha] at this
        exact this)
      have HAL := hall
      clear hbel
      go_wp2_with (go_at_call 59; refine (shares_own _ (hB2.kept ((Below.refl _ _).alloc (Nat.le_refl _) _)) hn1 HT.out).mono ?_; rintro e wa ⟨C, d, rfl, hown, hb⟩)
      obtain ⟨wo, rfl⟩ : ∃ wo : World, wo = wr := ⟨_, rfl⟩
      have s0 := cell_kept hb (show (wo.alloc (.cells #[.int .i64 0, .int .i64 0, .int .i64 0] 41)).cell? ⟨wo.heap.size, 0, none⟩ = some (.int .i64 0) by simp [go_sem])
      have s1 := cell_kept hb (show (wo.alloc (.cells #[.int .i64 0, .int .i64 0, .int .i64 0] 41)).cell? ⟨wo.heap.size, 1, none⟩ = some (.int .i64 0) by simp [go_sem])
      have s2 := cell_kept hb (show (wo.alloc (.cells #[.int .i64 0, .int .i64 0, .int .i64 0] 41)).cell? ⟨wo.heap.size, 2, none⟩ = some (.int .i64 0) by simp [go_sem])
      have fs0 := (hb.frozen (by simp)).trans (show (wo.alloc (.cells #[.int .i64 0, .int .i64 0, .int .i64 0] 41)).frozen? ⟨wo.heap.size, 0, none⟩ = false by simp [go_sem])
      have fs1 := (hb.frozen (by simp)).trans (show (wo.alloc (.cells #[.int .i64 0, .int .i64 0, .int .i64 0] 41)).frozen? ⟨wo.heap.size, 1, none⟩ = false by simp [go_sem])
      have fs2 := (hb.frozen (by simp)).trans (show (wo.alloc (.cells #[.int .i64 0, .int .i64 0, .int .i64 0] 41)).frozen? ⟨wo.heap.size, 2, none⟩ = false by simp [go_sem])
      have fz0 := (hb.frozen (by simp; omega)).trans (show (wo.alloc (.cells #[.int .i64 0, .int .i64 0, .int .i64 0] 41)).frozen? ⟨w.heap.size, 0, none⟩ = false by simp [go_sem, *])
      have fz1 := (hb.frozen (by simp; omega)).trans (show (wo.alloc (.cells #[.int .i64 0, .int .i64 0, .int .i64 0] 41)).frozen? ⟨w.heap.size, 1, none⟩ = false by simp [go_sem, *])
      have fz2 := (hb.frozen (by simp; omega)).trans (show (wo.alloc (.cells #[.int .i64 0, .int .i64 0, .int .i64 0] 41)).frozen? ⟨w.heap.size, 2, none⟩ = false by simp [go_sem, *])
      have z0 := cell_kept1 hb z0
      have z1 := cell_kept1 hb z1
      have z2 := cell_kept1 hb z2
      have hwo : w.heap.size ≤ wo.heap.size := hbw.size
      have hba : Below w.heap.size w wa := Below.trans (show Below w.heap.size w (wo.alloc (.cells #[.int .i64 0, .int .i64 0, .int .i64 0] 41)) from hbw.alloc hwo _) (hb.mono (by simp; omega))
      have hbase : (wo.alloc (.cells #[.int .i64 0, .int .i64 0, .int .i64 0] 41)).heap.size = wo.heap.size + 1 := by simp
      rw [hbase] at hown
      have hlw := Lib.hid (show (shareL ts).length = ls.length by rw [shareL_length, HL.out])
      have hpos := Lib.hid (fun x hx => (shareK_bd HT.out (k := ts.length) hn1 x (by rw [shareK_all]; exact hx)).1 : ∀ x ∈ shareL ts, 0 ≤ x)
      have htot := Lib.hid (show (shareL ts).sum ≤ 274941996890625 by rw [shareL_sum]; exact pow255_le hn1)
      clear hB2 hA2 hb hbw hbase
      go_loopg [10, 44] ls.length (fun gk a i wr => ∃ k : Nat, k + gk = ls.length ∧ i = .int .i64 k ∧ a = .int .i64 ((shareL ts).take k).sum ∧ Below w.heap.size w wr ∧
        (wr.cell? ⟨w.heap.size, 0, none⟩ = some (.int .i64 0) ∧ wr.cell? ⟨w.heap.size, 1, none⟩ = some (.int .i64 0) ∧ wr.cell? ⟨w.heap.size, 2, none⟩ = some (.int .i64 0)) ∧
        (wr.frozen? ⟨w.heap.size, 0, none⟩ = false ∧ wr.frozen? ⟨w.heap.size, 1, none⟩ = false ∧ wr.frozen? ⟨w.heap.size, 2, none⟩ = false) ∧
        (wr.cell? ⟨wo.heap.size, 0, none⟩ = some (.int .i64 (dotK ls (shareL ts) (·.1) k)) ∧ wr.cell? ⟨wo.heap.size, 1, none⟩ = some (.int .i64 (dotK ls (shareL ts) (·.2.1) k)) ∧ wr.cell? ⟨wo.heap.size, 2, none⟩ = some (.int .i64 (dotK ls (shareL ts) (·.2.2) k))) ∧
        (wr.frozen? ⟨wo.heap.size, 0, none⟩ = false ∧ wr.frozen? ⟨wo.heap.size, 1, none⟩ = false ∧ wr.frozen? ⟨wo.heap.size, 2, none⟩ = false) ∧
        wr.ownsRow (wo.heap.size + 1) 3 1 (.slice C (shareL ts).length d) (shareL ts).length ((shareL ts).map (.int .i64)) ∧
        Hid (DotOk (dotK ls (shareL ts) (·.1) k) ((shareL ts).take k).sum ∧ DotOk (dotK ls (shareL ts) (·.2.1) k) ((shareL ts).take k).sum ∧ DotOk (dotK ls (shareL ts) (·.2.2) k) ((shareL ts).take k).sum))
      case atStart => exact ⟨0, by omega, rfl, rfl, hba, ⟨z0, z1, z2⟩, ⟨fz0, fz1, fz2⟩, ⟨s0, s1, s2⟩, ⟨fs0, fs1, fs2⟩, hown, Lib.hid (by simp [DotOk, dotK])⟩
      case round =>
        obtain ⟨k, hgk, rfl, rfl, hbel, ⟨z0, z1, z2⟩, ⟨fz0, fz1, fz2⟩, ⟨s0, s1, s2⟩, ⟨fs0, fs1, fs2⟩, hown, hdot⟩ := hrel
        by_cases hlt : k < ls.length
        · obtain ⟨b1, o1, X0, X1, X2, rfl, hx, c0, c1, c2⟩ := HAW.out.at hlt
          have nb : b1 ≠ wo.heap.size := Nat.ne_of_lt (Nat.lt_of_lt_of_le (lt_of_cell c0) hwo)
          have nz : w.heap.size ≠ wo.heap.size := Nat.ne_of_lt hsz
          have c0 := cell_kept hbel c0
          have c1 := cell_kept hbel c1
          have c2 := cell_kept hbel c2
          have hlwn := hlw.out
          obtain ⟨g, cap, hv, hgb, _⟩ := hown.form (by omega)
          injection hv with hv1 _ hv2
          subst hv1
          subst hv2
          have hy : (shareL ts)[k]? = some ((shareL ts)[k]'(by omega)) := List.getElem?_eq_getElem _
          generalize (shareL ts)[k]'(by omega) = y at hy
          have cy := (hown.cellAt k (by omega)).trans (show ((shareL ts).map (Value.int .i64))[k]? = some (.int .i64 y) by rw [List.getElem?_map, hy]; rfl)
          have y0 := hpos.out y (List.mem_of_getElem? hy)
          obtain ⟨l1, l2, l3, l4, l5, l6⟩ := labOk (l := X0) (a := X1) (b := X2) (by
            have ha := HAL.out
            rw [List.take_length] at ha
            have := List.all_eq_true.1 ha (X0, X1, X2) (List.mem_of_getElem? hx.out)
            simpa [lab0] using this)
          have hts := take_sum hy
          have htl := take_le hpos.out (k + 1)
          rw [hts] at htl
          have htt := htot.out
          have hs1 := Lib.hid hts
          have hd0 := Lib.hid (dot_at (·.1) hx.out hy)
          have hd1 := Lib.hid (dot_at (·.2.1) hx.out hy)
          have hd2 := Lib.hid (dot_at (·.2.2) hx.out hy)
          obtain ⟨e0, e1, e2⟩ := hdot.out
          obtain ⟨e0', m01, m02⟩ := dotOk_succ e0 y0 (show -12800 ≤ X0 by omega) (show X0 ≤ 12800 by omega)
          obtain ⟨e1', m11, m12⟩ := dotOk_succ e1 y0 l3 l4
          obtain ⟨e2', m21, m22⟩ := dotOk_succ e2 y0 l5 l6
          have hdn := Lib.hid (And.intro e0' (And.intro e1' e2'))
          obtain ⟨q01, q02⟩ := e0
          obtain ⟨q11, q12⟩ := e1
          obtain ⟨q21, q22⟩ := e2
          clear hts e0' e1' e2' hdot
          generalize ((shareL ts).take k).sum = S at *
          generalize dotK ls (shareL ts) (·.1) k = D0 at *
          generalize dotK ls (shareL ts) (·.2.1) k = D1 at *
          generalize dotK ls (shareL ts) (·.2.2) k = D2 at *
          have i01 := i64_in (a := y * X0) (by omega) (by omega)
          have i02 := i64_in (a := D0 + y * X0) (by omega) (by omega)
          have i11 := i64_in (a := y * X1) (by omega) (by omega)
          have i12 := i64_in (a := D1 + y * X1) (by omega) (by omega)
          have i21 := i64_in (a := y * X2) (by omega) (by omega)
          have i22 := i64_in (a := D2 + y * X2) (by omega) (by omega)
          have i3 := i64_in (a := S + y) (by omega) (by omega)
          have hk0 : (0 : Int) ≤ (k : Int) := by omega
          have hk1 : (k : Int) < (ls.length : Int) := by omega
          have hk2 : (k : Int) < ((shareL ts).length : Int) := by omega
          have HG := Lib.hid hgk
          have HY := Lib.hid hy
          clear hgk hy htl htt hlwn q01 q02 q11 q12 q21 q22 m01 m02 m11 m12 m21 m22
          go_upto_region 18 with fail
          refine wp_region_planV (w1 := wr.drew.setCell ⟨wo.heap.size, 0, none⟩ (.int .i64 (D0 + y * X0))) (ks := 11) (by kernel_rfl) (by kernel_rfl) (by simp) (b := ?pb0) ?pl0 ?pr0
          case pl0 =>
            iterate 11 (refine PlanV.yield (v := ?_) (by first | rfl | go_simp) (by decide) ?_ ?_; rotate_left; (· (go_simp; try with_reducible rfl)); (try simp only [Act.put]); (try simp only [List.setIfInBounds_toArray, List.set_cons_succ, List.set_cons_zero]))
            refine PlanV.store (by rfl) (by kernel_rfl) ?_ ?_
            · go_simp
            (try simp only [Act.put]); (try simp only [List.setIfInBounds_toArray, List.set_cons_succ, List.set_cons_zero])
            exact PlanV.done
          have fz0 := (st_frozen (w := wr) (p := ⟨wo.heap.size, 0, none⟩) (v := (.int .i64 (D0 + y * X0)))).trans fz0
          have fz1 := (st_frozen (w := wr) (p := ⟨wo.heap.size, 0, none⟩) (v := (.int .i64 (D0 + y * X0)))).trans fz1
          have fz2 := (st_frozen (w := wr) (p := ⟨wo.heap.size, 0, none⟩) (v := (.int .i64 (D0 + y * X0)))).trans fz2
          have fs0 := (st_frozen (w := wr) (p := ⟨wo.heap.size, 0, none⟩) (v := (.int .i64 (D0 + y * X0)))).trans fs0
          have fs1 := (st_frozen (w := wr) (p := ⟨wo.heap.size, 0, none⟩) (v := (.int .i64 (D0 + y * X0)))).trans fs1
          have fs2 := (st_frozen (w := wr) (p := ⟨wo.heap.size, 0, none⟩) (v := (.int .i64 (D0 + y * X0)))).trans fs2
          have c0 := st_other (p := ⟨wo.heap.size, 0, none⟩) (v := (.int .i64 (D0 + y * X0))) c0 (addr_ne nb.symm)
          have c1 := st_other (p := ⟨wo.heap.size, 0, none⟩) (v := (.int .i64 (D0 + y * X0))) c1 (addr_ne nb.symm)
          have c2 := st_other (p := ⟨wo.heap.size, 0, none⟩) (v := (.int .i64 (D0 + y * X0))) c2 (addr_ne nb.symm)
          have z0 := st_other (p := ⟨wo.heap.size, 0, none⟩) (v := (.int .i64 (D0 + y * X0))) z0 (addr_ne nz.symm)
          have z1 := st_other (p := ⟨wo.heap.size, 0, none⟩) (v := (.int .i64 (D0 + y * X0))) z1 (addr_ne nz.symm)
          have z2 := st_other (p := ⟨wo.heap.size, 0, none⟩) (v := (.int .i64 (D0 + y * X0))) z2 (addr_ne nz.symm)
          have s0 := st_self (v := (.int .i64 (D0 + y * X0))) s0
          have s1 := st_other (p := ⟨wo.heap.size, 0, none⟩) (v := (.int .i64 (D0 + y * X0))) s1 (by intro e; injection e with _ e; omega)
          have s2 := st_other (p := ⟨wo.heap.size, 0, none⟩) (v := (.int .i64 (D0 + y * X0))) s2 (by intro e; injection e with _ e; omega)
          have hbel := st_below (p := ⟨wo.heap.size, 0, none⟩) (v := (.int .i64 (D0 + y * X0))) hbel hwo
          have hown := own_set (p := ⟨wo.heap.size, 0, none⟩) (own_kept hown (Below.drew (Below.refl wr.heap.size wr))) (by simp [Value.ownBlock]; omega) ((.int .i64 (D0 + y * X0)))
          have cy := st_other (p := ⟨wo.heap.size, 0, none⟩) (v := (.int .i64 (D0 + y * X0))) cy (addr_ne (by omega))
          generalize wr.drew.setCell ⟨wo.heap.size, 0, none⟩ (.int .i64 (D0 + y * X0)) = W0 at *
          go_upto_region 19 with fail
          refine wp_region_planV (w1 := W0.drew.setCell ⟨wo.heap.size, 1, none⟩ (.int .i64 (D1 + y * X1))) (ks := 11) (by kernel_rfl) (by kernel_rfl) (by simp) (b := ?pb1) ?pl1 ?pr1
          case pl1 =>
            iterate 11 (refine PlanV.yield (v := ?_) (by first | rfl | go_simp) (by decide) ?_ ?_; rotate_left; (· (go_simp; try with_reducible rfl)); (try simp only [Act.put]); (try simp only [List.setIfInBounds_toArray, List.set_cons_succ, List.set_cons_zero]))
            refine PlanV.store (by rfl) (by kernel_rfl) ?_ ?_
            · go_simp
            (try simp only [Act.put]); (try simp only [List.setIfInBounds_toArray, List.set_cons_succ, List.set_cons_zero])
            exact PlanV.done
          have fz0 := (st_frozen (w := W0) (p := ⟨wo.heap.size, 1, none⟩) (v := (.int .i64 (D1 + y * X1)))).trans fz0
          have fz1 := (st_frozen (w := W0) (p := ⟨wo.heap.size, 1, none⟩) (v := (.int .i64 (D1 + y * X1)))).trans fz1
          have fz2 := (st_frozen (w := W0) (p := ⟨wo.heap.size, 1, none⟩) (v := (.int .i64 (D1 + y * X1)))).trans fz2
          have fs0 := (st_frozen (w := W0) (p := ⟨wo.heap.size, 1, none⟩) (v := (.int .i64 (D1 + y * X1)))).trans fs0
          have fs1 := (st_frozen (w := W0) (p := ⟨wo.heap.size, 1, none⟩) (v := (.int .i64 (D1 + y * X1)))).trans fs1
          have fs2 := (st_frozen (w := W0) (p := ⟨wo.heap.size, 1, none⟩) (v := (.int .i64 (D1 + y * X1)))).trans fs2
          have c0 := st_other (p := ⟨wo.heap.size, 1, none⟩) (v := (.int .i64 (D1 + y * X1))) c0 (addr_ne nb.symm)
          have c1 := st_other (p := ⟨wo.heap.size, 1, none⟩) (v := (.int .i64 (D1 + y * X1))) c1 (addr_ne nb.symm)
          have c2 := st_other (p := ⟨wo.heap.size, 1, none⟩) (v := (.int .i64 (D1 + y * X1))) c2 (addr_ne nb.symm)
          have z0 := st_other (p := ⟨wo.heap.size, 1, none⟩) (v := (.int .i64 (D1 + y * X1))) z0 (addr_ne nz.symm)
          have z1 := st_other (p := ⟨wo.heap.size, 1, none⟩) (v := (.int .i64 (D1 + y * X1))) z1 (addr_ne nz.symm)
          have z2 := st_other (p := ⟨wo.heap.size, 1, none⟩) (v := (.int .i64 (D1 + y * X1))) z2 (addr_ne nz.symm)
          have s0 := st_other (p := ⟨wo.heap.size, 1, none⟩) (v := (.int .i64 (D1 + y * X1))) s0 (by intro e; injection e with _ e; omega)
          have s1 := st_self (v := (.int .i64 (D1 + y * X1))) s1
          have s2 := st_other (p := ⟨wo.heap.size, 1, none⟩) (v := (.int .i64 (D1 + y * X1))) s2 (by intro e; injection e with _ e; omega)
          have hbel := st_below (p := ⟨wo.heap.size, 1, none⟩) (v := (.int .i64 (D1 + y * X1))) hbel hwo
          have hown := own_set (p := ⟨wo.heap.size, 1, none⟩) (own_kept hown (Below.drew (Below.refl W0.heap.size W0))) (by simp [Value.ownBlock]; omega) ((.int .i64 (D1 + y * X1)))
          have cy := st_other (p := ⟨wo.heap.size, 1, none⟩) (v := (.int .i64 (D1 + y * X1))) cy (addr_ne (by omega))
          generalize W0.drew.setCell ⟨wo.heap.size, 1, none⟩ (.int .i64 (D1 + y * X1)) = W1 at *
          go_upto_region 20 with fail
          refine wp_region_planV (w1 := W1.drew.setCell ⟨wo.heap.size, 2, none⟩ (.int .i64 (D2 + y * X2))) (ks := 11) (by kernel_rfl) (by kernel_rfl) (by simp) (b := ?pb2) ?pl2 ?pr2
          case pl2 =>
            iterate 11 (refine PlanV.yield (v := ?_) (by first | rfl | go_simp) (by decide) ?_ ?_; rotate_left; (· (go_simp; try with_reducible rfl)); (try simp only [Act.put]); (try simp only [List.setIfInBounds_toArray, List.set_cons_succ, List.set_cons_zero]))
            refine PlanV.store (by rfl) (by kernel_rfl) ?_ ?_
            · go_simp
            (try simp only [Act.put]); (try simp only [List.setIfInBounds_toArray, List.set_cons_succ, List.set_cons_zero])
            exact PlanV.done
          have fz0 := (st_frozen (w := W1) (p := ⟨wo.heap.size, 2, none⟩) (v := (.int .i64 (D2 + y * X2)))).trans fz0
          have fz1 := (st_frozen (w := W1) (p := ⟨wo.heap.size, 2, none⟩) (v := (.int .i64 (D2 + y * X2)))).trans fz1
          have fz2 := (st_frozen (w := W1) (p := ⟨wo.heap.size, 2, none⟩) (v := (.int .i64 (D2 + y * X2)))).trans fz2
          have fs0 := (st_frozen (w := W1) (p := ⟨wo.heap.size, 2, none⟩) (v := (.int .i64 (D2 + y * X2)))).trans fs0
          have fs1 := (st_frozen (w := W1) (p := ⟨wo.heap.size, 2, none⟩) (v := (.int .i64 (D2 + y * X2)))).trans fs1
          have fs2 := (st_frozen (w := W1) (p := ⟨wo.heap.size, 2, none⟩) (v := (.int .i64 (D2 + y * X2)))).trans fs2
          have c0 := st_other (p := ⟨wo.heap.size, 2, none⟩) (v := (.int .i64 (D2 + y * X2))) c0 (addr_ne nb.symm)
          have c1 := st_other (p := ⟨wo.heap.size, 2, none⟩) (v := (.int .i64 (D2 + y * X2))) c1 (addr_ne nb.symm)
          have c2 := st_other (p := ⟨wo.heap.size, 2, none⟩) (v := (.int .i64 (D2 + y * X2))) c2 (addr_ne nb.symm)
          have z0 := st_other (p := ⟨wo.heap.size, 2, none⟩) (v := (.int .i64 (D2 + y * X2))) z0 (addr_ne nz.symm)
          have z1 := st_other (p := ⟨wo.heap.size, 2, none⟩) (v := (.int .i64 (D2 + y * X2))) z1 (addr_ne nz.symm)
          have z2 := st_other (p := ⟨wo.heap.size, 2, none⟩) (v := (.int .i64 (D2 + y * X2))) z2 (addr_ne nz.symm)
          have s0 := st_other (p := ⟨wo.heap.size, 2, none⟩) (v := (.int .i64 (D2 + y * X2))) s0 (by intro e; injection e with _ e; omega)
          have s1 := st_other (p := ⟨wo.heap.size, 2, none⟩) (v := (.int .i64 (D2 + y * X2))) s1 (by intro e; injection e with _ e; omega)
          have s2 := st_self (v := (.int .i64 (D2 + y * X2))) s2
          have hbel := st_below (p := ⟨wo.heap.size, 2, none⟩) (v := (.int .i64 (D2 + y * X2))) hbel hwo
          have hown := own_set (p := ⟨wo.heap.size, 2, none⟩) (own_kept hown (Below.drew (Below.refl W1.heap.size W1))) (by simp [Value.ownBlock]; omega) ((.int .i64 (D2 + y * X2)))
          have cy := st_other (p := ⟨wo.heap.size, 2, none⟩) (v := (.int .i64 (D2 + y * X2))) cy (addr_ne (by omega))
          generalize W1.drew.setCell ⟨wo.heap.size, 2, none⟩ (.int .i64 (D2 + y * X2)) = W2 at *
          go_wp2
          go_roundg (gk - 1)
          case measure => have := HG.out; omega
          case rel => exact ⟨k + 1, by have := HG.out; omega, by go_num, by rw [hs1.out], hbel, ⟨z0, z1, z2⟩, ⟨fz0, fz1, fz2⟩, ⟨by rw [hd0.out]; exact s0, by rw [hd1.out]; exact s1, by rw [hd2.out]; exact s2⟩, ⟨fs0, fs1, fs2⟩, hown, by rw [hd0.out, hd1.out, hd2.out, hs1.out]; exact hdn⟩
        · obtain rfl : k = ls.length := by omega
          have hsum : ((shareL ts).take ls.length).sum = 255 ^ ts.length := by
            rw [List.take_of_length_le (by rw [hlw.out]; exact Nat.le_refl _), shareL_sum]
          rw [hsum] at hdot ⊢
          have t1 := pow255_le hn1
          have t0 := pow255_pos ts.length
          obtain ⟨⟨q01, q02⟩, ⟨q11, q12⟩, q21, q22⟩ := hdot.out
          have v0 := Lib.hid (show predC ls ts (·.1) = rnd (dotK ls (shareL ts) (·.1) ls.length) (255 ^ ts.length) from rfl)
          have v1 := Lib.hid (show predC ls ts (·.2.1) = rnd (dotK ls (shareL ts) (·.2.1) ls.length) (255 ^ ts.length) from rfl)
          have v2 := Lib.hid (show predC ls ts (·.2.2) = rnd (dotK ls (shareL ts) (·.2.2) ls.length) (255 ^ ts.length) from rfl)
          have hk3 : ((shareL ts).length : Int) ≤ (ls.length : Int) := by have := hlw.out; omega
          clear hsum hgk hdot hown
          generalize dotK ls (shareL ts) (·.1) ls.length = D0 at *
          generalize dotK ls (shareL ts) (·.2.1) ls.length = D1 at *
          generalize dotK ls (shareL ts) (·.2.2) ls.length = D2 at *
          generalize (255 : Int) ^ ts.length = T at *
          go_upto_region 22 with fail
          refine wp_region_planV (w1 := ((wr.drew.setCell ⟨w.heap.size, 0, none⟩ (.int .i64 (rnd D0 T))).setCell ⟨w.heap.size, 1, none⟩ (.int .i64 (rnd D1 T))).setCell ⟨w.heap.size, 2, none⟩ (.int .i64 (rnd D2 T))) (ks := 13) (by kernel_rfl) (by kernel_rfl) (by simp) (b := ?pbe) ?ple ?pre
          case ple =>
            iterate 3 (refine PlanV.yield (v := ?_) (by first | rfl | go_simp) (by decide) ?_ ?_; rotate_left; (· (go_simp; try with_reducible rfl)); (try simp only [Act.put]); (try simp only [List.setIfInBounds_toArray, List.set_cons_succ, List.set_cons_zero]))
            refine PlanV.call (v := .int .i64 (rnd D0 T)) (args := ?_) (f := ?_) (by rfl) (by decide) (fun w => ?_) ?_ ?_
            rotate_left 2; (· (go_simp; constructor <;> with_reducible rfl))
            · refine (nearest_w _ _ _ t0 (by omega) (by omega) (by omega)).mono ?_
              rintro e w' ⟨rfl, rfl⟩
              exact ⟨rfl, rfl⟩
            (try simp only [Act.put]); (try simp only [List.setIfInBounds_toArray, List.set_cons_succ, List.set_cons_zero])
            iterate 3 (refine PlanV.yield (v := ?_) (by first | rfl | go_simp) (by decide) ?_ ?_; rotate_left; (· (go_simp; try with_reducible rfl)); (try simp only [Act.put]); (try simp only [List.setIfInBounds_toArray, List.set_cons_succ, List.set_cons_zero]))
            refine PlanV.call (v := .int .i64 (rnd D1 T)) (args := ?_) (f := ?_) (by rfl) (by decide) (fun w => ?_) ?_ ?_
            rotate_left 2; (· (go_simp; constructor <;> with_reducible rfl))
            · refine (nearest_w _ _ _ t0 (by omega) (by omega) (by omega)).mono ?_
              rintro e w' ⟨rfl, rfl⟩
              exact ⟨rfl, rfl⟩
            (try simp only [Act.put]); (try simp only [List.setIfInBounds_toArray, List.set_cons_succ, List.set_cons_zero])
            iterate 3 (refine PlanV.yield (v := ?_) (by first | rfl | go_simp) (by decide) ?_ ?_; rotate_left; (· (go_simp; try with_reducible rfl)); (try simp only [Act.put]); (try simp only [List.setIfInBounds_toArray, List.set_cons_succ, List.set_cons_zero]))
            refine PlanV.call (v := .int .i64 (rnd D2 T)) (args := ?_) (f := ?_) (by rfl) (by decide) (fun w => ?_) ?_ ?_
            rotate_left 2; (· (go_simp; constructor <;> with_reducible rfl))
            · refine (nearest_w _ _ _ t0 (by omega) (by omega) (by omega)).mono ?_
              rintro e w' ⟨rfl, rfl⟩
              exact ⟨rfl, rfl⟩
            (try simp only [Act.put]); (try simp only [List.setIfInBounds_toArray, List.set_cons_succ, List.set_cons_zero])
            refine PlanV.yield (v := ?_) (by first | rfl | go_simp) (by decide) ?_ ?_; rotate_left; (· (go_simp; try with_reducible rfl)); (try simp only [Act.put]); (try simp only [List.setIfInBounds_toArray, List.set_cons_succ, List.set_cons_zero])
            refine PlanV.store (by rfl) (by kernel_rfl) ?_ ?_
            · go_simp
            (try simp only [Act.put]); (try simp only [List.setIfInBounds_toArray, List.set_cons_succ, List.set_cons_zero])
            refine PlanV.late (v := ?_) (by rfl) (by decide) (fun w => ?_) ?_; rotate_left; (· (go_simp; try with_reducible rfl)); (try simp only [Act.put]); (try simp only [List.setIfInBounds_toArray, List.set_cons_succ, List.set_cons_zero])
            exact PlanV.done
          have hg := hG.out
          simp only [Prod.mk.injEq] at hg
          obtain ⟨⟨rfl, rfl, rfl⟩, rfl⟩ := hg
          go_wp2
          refine bodyPost_ret (v := .tuple #[.agg #[.int .i64 (rnd D0 T), .int .i64 (rnd D1 T), .int .i64 (rnd D2 T)], .int .i64 0]) (by simp [results, Try.results29, go_sem, *]) rfl ?_
          exact ⟨by rw [v0.out, v1.out, v2.out], (by repeat (first | assumption | exact Below.refl _ _ | refine below_drewN ?_ _ | refine Below.drew ?_ | refine Below.setCell ?_ (by first | exact Nat.le_refl _ | assumption | (simp; done) | (simp; omega) | omega) _ | refine Below.alloc ?_ (by first | exact Nat.le_refl _ | assumption | (simp; done) | omega | exact Below.size (by assumption) | (simp; omega)) _))⟩
end Go.Proofs.Ytlbnicapkfmdoaa
