/- overprintWorks. -/
import Derived.Test.YtlbnicapkfmdoaaOver8
namespace Go.Proofs.Ytlbnicapkfmdoaa
open Go.RowKit

theorem ints_alloc (w : World) (xs : List Int) (e : TypeId) : Ints (w.alloc (.cells (xs.map (.int .i64)).toArray e)) (some ⟨w.heap.size, 0, none⟩) xs := by
  intro i v hv
  refine ⟨w.heap.size, 0, rfl, ?_⟩
  rw [Nat.zero_add, World.cell?_alloc_new]
  simpa using hv

set_option maxRecDepth 20000 in
set_option maxHeartbeats 4000000 in

theorem ints_allocH (w : World) (xs : List Int) (e : TypeId) (H : Nat) (hH : w.heap.size = H) : Ints (w.alloc (.cells (xs.map (.int .i64)).toArray e)) (some ⟨H, 0, none⟩) xs := by
  subst hH
  exact ints_alloc w xs e
def ovA : List Int := [10, 200, 30, 100]
def ovB : List Int := [0, 50, 0, 100]
def ovC : List Int := [0, 1, 2, 3]
def ovD : List Int := [0, 50, 30, 161]
def ovE : List Int := [51, 255]
def ovF : List Int := [0, 0, 52020, 13005]
def ovG : List Int := [51]
def ovL : List (Int × Int × Int) := [(10000, 0, 0), (6000, -3000, -4000)]
theorem labs_two (w : World) : Labs (w.alloc (.cells #[.int .i64 10000, .int .i64 0, .int .i64 0, .int .i64 6000, .int .i64 (-3000), .int .i64 (-4000)] 41)) (some ⟨w.heap.size, 0, none⟩) ovL := by
  intro i p hp
  have hi : i < 2 := (List.getElem?_eq_some_iff.1 hp).1
  refine ⟨w.heap.size, 0, rfl, ?_⟩
  rcases (show i = 0 ∨ i = 1 by omega) with rfl | rfl
  · simp [ovL] at hp
    subst hp
    simp [go_sem]
  · simp [ovL] at hp
    subst hp
    simp [go_sem]
set_option maxRecDepth 100000 in
set_option maxHeartbeats 4000000 in
theorem overprintWorks_any (w : World) : Calls Try.prog 24 #[] w fun e w' => e = .returned (.bool true) ∧ Below w.heap.size w w' := by
  have H1 := Lib.hid (show combF ovA ovB ovC = (ovD, 0) by decide +kernel)
  have H2 := Lib.hid (show weightsF ovE = (ovF, 0) by decide +kernel)
  have H3 := Lib.hid (show predF ovL ovG = ((9200, -600, -800), 0) by decide +kernel)
  have m4 : (4 : Nat) ≤ maxLen := by simp [maxLen]
  have m2 : (2 : Nat) ≤ maxLen := by simp [maxLen]
  have m1 : (1 : Nat) ≤ maxLen := by simp [maxLen]
  go_enter Try.func24, Try.ntmps24
  go_wp2_with fail
  have a1 : Ints (((w.alloc (.cells #[.int .i64 10, .int .i64 200, .int .i64 30, .int .i64 100] 3)).alloc (.cells #[.int .i64 0, .int .i64 50, .int .i64 0, .int .i64 100] 3)).alloc (.cells #[.int .i64 0, .int .i64 1, .int .i64 2, .int .i64 3] 3)) (some ⟨w.heap.size, 0, none⟩) ovA := ((ints_alloc w ovA 3).kept ((Below.refl _ _).alloc (Nat.le_refl _) _)).kept ((Below.refl _ _).alloc (Nat.le_refl _) _)
  have a2 : Ints (((w.alloc (.cells #[.int .i64 10, .int .i64 200, .int .i64 30, .int .i64 100] 3)).alloc (.cells #[.int .i64 0, .int .i64 50, .int .i64 0, .int .i64 100] 3)).alloc (.cells #[.int .i64 0, .int .i64 1, .int .i64 2, .int .i64 3] 3)) (some ⟨w.heap.size + 1, 0, none⟩) ovB := (ints_allocH (w.alloc (.cells #[.int .i64 10, .int .i64 200, .int .i64 30, .int .i64 100] 3)) ovB 3 (w.heap.size + 1) (by simp)).kept ((Below.refl _ _).alloc (Nat.le_refl _) _)
  have a3 : Ints (((w.alloc (.cells #[.int .i64 10, .int .i64 200, .int .i64 30, .int .i64 100] 3)).alloc (.cells #[.int .i64 0, .int .i64 50, .int .i64 0, .int .i64 100] 3)).alloc (.cells #[.int .i64 0, .int .i64 1, .int .i64 2, .int .i64 3] 3)) (some ⟨w.heap.size + 1 + 1, 0, none⟩) ovC := ints_allocH ((w.alloc (.cells #[.int .i64 10, .int .i64 200, .int .i64 30, .int .i64 100] 3)).alloc (.cells #[.int .i64 0, .int .i64 50, .int .i64 0, .int .i64 100] 3)) ovC 3 (w.heap.size + 1 + 1) (by simp)
  go_at_call 25
  refine (combine_is (be := ovA) (ab := ovB) (ki := ovC) (ca := 4) (cb := 4) (cc := 4) _ m4 m4 m4 a1 a2 a3 H1.out).mono ?_
  rintro e wa ⟨A1, d1, rfl, hi1, hb⟩
  have hacc : Below w.heap.size w wa := Below.trans (by repeat (first | assumption | exact Below.refl _ _ | refine below_drewN ?_ _ | refine Below.drew ?_ | refine Below.setCell ?_ (by first | exact Nat.le_refl _ | assumption | (simp; done) | (simp; omega) | omega) _ | refine Below.alloc ?_ (by first | exact Nat.le_refl _ | assumption | (simp; done) | omega | exact Below.size (by assumption) | (simp; omega)) _)) (hb.mono (by first | exact Nat.le_refl _ | assumption | (simp; done) | (simp; omega)))
  have hz := hacc.size
  clear hb a1 a2 a3
  go_wp2_with fail
  go_at_call 28
  refine (weights_is (ts := ovE) (c := 2) _ m2 (ints_alloc wa ovE 3) H2.out).mono ?_
  rintro e wb ⟨A2, d2, rfl, hi2, hb⟩
  have hacc : Below w.heap.size w wb := Below.trans (by repeat (first | assumption | exact Below.refl _ _ | refine below_drewN ?_ _ | refine Below.drew ?_ | refine Below.setCell ?_ (by first | exact Nat.le_refl _ | assumption | (simp; done) | (simp; omega) | omega) _ | refine Below.alloc ?_ (by first | exact Nat.le_refl _ | assumption | (simp; done) | omega | exact Below.size (by assumption) | (simp; omega)) _)) (hb.mono (by first | exact Nat.le_refl _ | assumption | (simp; done) | (simp; omega)))
  have hz := hacc.size
  have hi1 := hi1.kept (show Below wa.heap.size wa wb from Below.trans (by repeat (first | assumption | exact Below.refl _ _ | refine below_drewN ?_ _ | refine Below.drew ?_ | refine Below.setCell ?_ (by first | exact Nat.le_refl _ | assumption | (simp; done) | (simp; omega) | omega) _ | refine Below.alloc ?_ (by first | exact Nat.le_refl _ | assumption | (simp; done) | omega | exact Below.size (by assumption) | (simp; omega)) _)) (hb.mono (by first | exact Nat.le_refl _ | assumption | (simp; done) | (simp; omega))))
  clear hb
  go_wp2_with fail
  go_at_call 29
  refine (predict_is (ls := ovL) (ts := ovG) (ca := 2) (cb := 1) _ ((labs_two wb).kept ((Below.refl _ _).alloc (Nat.le_refl _) _)) (ints_allocH (wb.alloc (.cells #[.int .i64 10000, .int .i64 0, .int .i64 0, .int .i64 6000, .int .i64 (-3000), .int .i64 (-4000)] 41)) ovG 3 (wb.heap.size + 1) (by simp)) m1 H3.out).mono ?_
  rintro e wc ⟨rfl, hb⟩
  have hacc : Below w.heap.size w wc := Below.trans (by repeat (first | assumption | exact Below.refl _ _ | refine below_drewN ?_ _ | refine Below.drew ?_ | refine Below.setCell ?_ (by first | exact Nat.le_refl _ | assumption | (simp; done) | (simp; omega) | omega) _ | refine Below.alloc ?_ (by first | exact Nat.le_refl _ | assumption | (simp; done) | omega | exact Below.size (by assumption) | (simp; omega)) _)) (hb.mono (by first | exact Nat.le_refl _ | assumption | (simp; done) | (simp; omega)))
  have hz := hacc.size
  have hi1 := hi1.kept (show Below wb.heap.size wb wc from Below.trans (by repeat (first | assumption | exact Below.refl _ _ | refine below_drewN ?_ _ | refine Below.drew ?_ | refine Below.setCell ?_ (by first | exact Nat.le_refl _ | assumption | (simp; done) | (simp; omega) | omega) _ | refine Below.alloc ?_ (by first | exact Nat.le_refl _ | assumption | (simp; done) | omega | exact Below.size (by assumption) | (simp; omega)) _)) (hb.mono (by first | exact Nat.le_refl _ | assumption | (simp; done) | (simp; omega))))
  have hi2 := hi2.kept (show Below wb.heap.size wb wc from Below.trans (by repeat (first | assumption | exact Below.refl _ _ | refine below_drewN ?_ _ | refine Below.drew ?_ | refine Below.setCell ?_ (by first | exact Nat.le_refl _ | assumption | (simp; done) | (simp; omega) | omega) _ | refine Below.alloc ?_ (by first | exact Nat.le_refl _ | assumption | (simp; done) | omega | exact Below.size (by assumption) | (simp; omega)) _)) (hb.mono (by first | exact Nat.le_refl _ | assumption | (simp; done) | (simp; omega))))
  clear hb
  go_wp2_with fail
  have r0 : (wc.alloc (.cells #[.int .i64 9200, .int .i64 (-600), .int .i64 (-800)] 41)).cell? ⟨wc.heap.size, 0, none⟩ = some (.int .i64 9200) := by simp [go_sem]
  have r1 : (wc.alloc (.cells #[.int .i64 9200, .int .i64 (-600), .int .i64 (-800)] 41)).cell? ⟨wc.heap.size, 1, none⟩ = some (.int .i64 (-600)) := by simp [go_sem]
  have r2 : (wc.alloc (.cells #[.int .i64 9200, .int .i64 (-600), .int .i64 (-800)] 41)).cell? ⟨wc.heap.size, 2, none⟩ = some (.int .i64 (-800)) := by simp [go_sem]
  go_at_call 27
  refine (sameInts_yes A1 (some ⟨wc.heap.size + 1, 0, none⟩) ovD d1 4 _ m4 (hi1.kept (show Below wc.heap.size wc _ from (by repeat (first | assumption | exact Below.refl _ _ | refine below_drewN ?_ _ | refine Below.drew ?_ | refine Below.setCell ?_ (by first | exact Nat.le_refl _ | assumption | (simp; done) | (simp; omega) | omega) _ | refine Below.alloc ?_ (by first | exact Nat.le_refl _ | assumption | (simp; done) | omega | exact Below.size (by assumption) | (simp; omega)) _)))) (ints_allocH (wc.alloc (.cells #[.int .i64 9200, .int .i64 (-600), .int .i64 (-800)] 41)) ovD 3 (wc.heap.size + 1) (by simp))).mono ?_
  rintro e wd ⟨rfl, hb⟩
  have r0 := cell_kept1 hb r0
  have r1 := cell_kept1 hb r1
  have r2 := cell_kept1 hb r2
  have hacc : Below w.heap.size w wd := Below.trans (by repeat (first | assumption | exact Below.refl _ _ | refine below_drewN ?_ _ | refine Below.drew ?_ | refine Below.setCell ?_ (by first | exact Nat.le_refl _ | assumption | (simp; done) | (simp; omega) | omega) _ | refine Below.alloc ?_ (by first | exact Nat.le_refl _ | assumption | (simp; done) | omega | exact Below.size (by assumption) | (simp; omega)) _)) (hb.mono (by first | exact Nat.le_refl _ | assumption | (simp; done) | (simp; omega)))
  have hz := hacc.size
  have hi2 := hi2.kept (show Below wc.heap.size wc wd from Below.trans (by repeat (first | assumption | exact Below.refl _ _ | refine below_drewN ?_ _ | refine Below.drew ?_ | refine Below.setCell ?_ (by first | exact Nat.le_refl _ | assumption | (simp; done) | (simp; omega) | omega) _ | refine Below.alloc ?_ (by first | exact Nat.le_refl _ | assumption | (simp; done) | omega | exact Below.size (by assumption) | (simp; omega)) _)) (hb.mono (by first | exact Nat.le_refl _ | assumption | (simp; done) | (simp; omega))))
  have hr := lt_of_cell r0
  clear hb
  go_wp2_with fail
  go_at_call 27
  refine (sameInts_yes A2 (some ⟨wd.heap.size, 0, none⟩) ovF d2 4 _ m4 (hi2.kept (show Below wd.heap.size wd _ from (by repeat (first | assumption | exact Below.refl _ _ | refine below_drewN ?_ _ | refine Below.drew ?_ | refine Below.setCell ?_ (by first | exact Nat.le_refl _ | assumption | (simp; done) | (simp; omega) | omega) _ | refine Below.alloc ?_ (by first | exact Nat.le_refl _ | assumption | (simp; done) | omega | exact Below.size (by assumption) | (simp; omega)) _)))) (ints_alloc wd ovF 3)).mono ?_
  rintro e we ⟨rfl, hb⟩
  have r0 := cell_kept1 hb r0
  have r1 := cell_kept1 hb r1
  have r2 := cell_kept1 hb r2
  have hacc : Below w.heap.size w we := Below.trans (by repeat (first | assumption | exact Below.refl _ _ | refine below_drewN ?_ _ | refine Below.drew ?_ | refine Below.setCell ?_ (by first | exact Nat.le_refl _ | assumption | (simp; done) | (simp; omega) | omega) _ | refine Below.alloc ?_ (by first | exact Nat.le_refl _ | assumption | (simp; done) | omega | exact Below.size (by assumption) | (simp; omega)) _)) (hb.mono (by first | exact Nat.le_refl _ | assumption | (simp; done) | (simp; omega)))
  have hz := hacc.size
  clear hb
  go_wp2
  go_ret
  exact ⟨rfl, hacc⟩
end Go.Proofs.Ytlbnicapkfmdoaa
