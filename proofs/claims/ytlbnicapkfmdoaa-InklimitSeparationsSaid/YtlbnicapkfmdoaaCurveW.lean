/- Walks of curve.Fit as a whole, of bent, line and curveWorks. -/
import Derived.Test.YtlbnicapkfmdoaaFit3
namespace Go.Proofs.Ytlbnicapkfmdoaa
open Go.RowKit

def fitF (ps : List (Int × Int)) : List (Int × Int) × Int := if fitE ps ≠ 0 then ([], fitE ps) else (fitL ps, 0)
theorem fit_is {A : Option Addr} {ps : List (Int × Int)} {c : Nat} {p : List (Int × Int)} {q : Int} (w : World) (hl : ps.length ≤ maxLen) (h : Pts w A ps) (hF : fitF ps = (p, q)) :
    Calls Try.prog 47 #[.slice A ps.length c] w (OutCurve p q w) := by
  unfold fitF at hF
  by_cases he : fitE ps = 0
  · rw [if_neg (by omega)] at hF
    cases hF
    exact fit_good A ps c w h he
  · rw [if_pos he] at hF
    cases hF
    exact fit_bad A ps c w hl h he

/-- what a call leaves: a curve -/
def OutC (ps : List (Int × Int)) (w : World) (e : Ending) (w' : World) : Prop := ∃ A c, e = .returned (.agg #[.slice A ps.length c]) ∧ Pts w' A ps ∧ Below w.heap.size w w'
def bentL : List (Int × Int) := [(0, 0), (32640, 16320), (65280, 65280)]
def lineL : List (Int × Int) := [(0, 0), (65280, 65280)]
theorem bentL_length : bentL.length = 3 := rfl
theorem lineL_length : lineL.length = 2 := rfl
/-- pairs that lie in a block from its head on -/
theorem pts_block {w : World} {g : Nat} {ps : List (Int × Int)} (h : ∀ j u, (encP ps)[j]? = some u → w.cell? ⟨g, j, none⟩ = some u) : Pts w (some ⟨g, 0, none⟩) ps := by
  intro i p hi
  obtain ⟨h1, h2⟩ := encP_at (x := p.1) (y := p.2) hi
  exact ⟨g, 0, rfl, by rw [Nat.zero_add]; exact h _ _ h1, by rw [Nat.zero_add]; exact h _ _ h2⟩
theorem cells_alloc (w : World) (cs : List Value) (e : TypeId) : ∀ j u, cs[j]? = some u → (w.alloc (.cells cs.toArray e)).cell? ⟨w.heap.size, j, none⟩ = some u := by
  intro j u hu
  rw [World.cell?_alloc_new]
  simpa using hu

theorem bent_any (w : World) : Calls Try.prog 66 #[] w (OutC bentL w) := by
  go_enter Try.func66, Try.ntmps66
  go_wp2
  refine bodyPost_ret (v := .agg #[.slice (some ⟨w.heap.size + 1, 0, none⟩) 3 3]) (by simp [results, Try.results66, go_sem]) rfl ?_
  refine ⟨_, _, rfl, pts_block ?_, (by repeat (first | assumption | exact Below.refl _ _ | refine below_drewN ?_ _ | refine Below.drew ?_ | refine Below.setCell ?_ (by first | exact Nat.le_refl _ | assumption | (simp; done) | (simp; omega) | omega) _ | refine Below.alloc ?_ (by first | exact Nat.le_refl _ | assumption | (simp; done) | omega | exact Below.size (by assumption) | (simp; omega)) _))⟩
  intro j u hu
  have hu : [Value.int .i64 0, .int .i64 0, .int .i64 32640, .int .i64 16320, .int .i64 65280, .int .i64 65280][j]? = some u := hu
  simpa using hu
theorem line_any (w : World) : Calls Try.prog 61 #[] w (OutC lineL w) := by
  go_enter Try.func61, Try.ntmps61
  go_wp2
  refine bodyPost_ret (v := .agg #[.slice (some ⟨w.heap.size + 1, 0, none⟩) 2 2]) (by simp [results, Try.results61, go_sem]) rfl ?_
  refine ⟨_, _, rfl, pts_block ?_, (by repeat (first | assumption | exact Below.refl _ _ | refine below_drewN ?_ _ | refine Below.drew ?_ | refine Below.setCell ?_ (by first | exact Nat.le_refl _ | assumption | (simp; done) | (simp; omega) | omega) _ | refine Below.alloc ?_ (by first | exact Nat.le_refl _ | assumption | (simp; done) | omega | exact Below.size (by assumption) | (simp; omega)) _))⟩
  intro j u hu
  have hu : [Value.int .i64 0, .int .i64 0, .int .i64 65280, .int .i64 65280][j]? = some u := hu
  simpa using hu

def sampL : List (Int × Int) := [(0, 10), (100, 4), (200, 20)]
def fitX : List (Int × Int) := [(0, 7), (100, 7), (200, 20), (65280, 20)]
set_option maxRecDepth 100000 in
set_option maxHeartbeats 4000000 in
theorem curveWorks_any (w : World) : Calls Try.prog 42 #[] w fun e w' => e = .returned (.bool true) ∧ Below w.heap.size w w' := by
  have H1 := Lib.hid (show atF bentL 48960 = (40800, 0) by decide +kernel)
  have H2 := Lib.hid (show invF bentL 16321 = (32641, 0) by decide +kernel)
  have H3 := Lib.hid (show tableF bentL = (tabL bentL, 0) from if_neg (by decide +kernel))
  have H4 := Lib.hid (show fitF sampL = (fitX, 0) by decide +kernel)
  have H5 := Lib.hid (show (tabL bentL)[128]? = some 65 by decide +kernel)
  have hl3 : bentL.length ≤ maxLen := by rw [bentL_length]; simp [maxLen]
  have hacc := Below.refl w.heap.size w
  go_enter Try.func42, Try.ntmps42
  go_wp2_with (first
    | (go_at_call 66; refine (bent_any _).mono ?_; rintro e wb ⟨A, c, rfl, hp, hb⟩; have hacc := hacc.trans (hb.mono hacc.size))
    | (go_at_call 43; refine (at_is _ hl3 hp H1.out).mono ?_; rintro e wa ⟨rfl, hba⟩; have hacc := hacc.trans (hba.mono hacc.size))
    | (go_at_call 45; refine (inv_is _ hl3 hp H2.out).mono ?_; rintro e wi ⟨rfl, hbi⟩; have hacc := hacc.trans (hbi.mono hacc.size))
    | (go_at_call 50; refine (table_is _ hl3 hp H3.out).mono ?_; rintro e wt ⟨At, ct, rfl, hT, hbt⟩; have hacc := hacc.trans (hbt.mono hacc.size)))
  refine (fit_is (ps := sampL) (c := 3) _ (by simp [maxLen, sampL]) (pts_block (g := wt.heap.size) ?_) H4.out).mono ?_
  · intro j u hu
    have hu : [Value.int .i64 0, .int .i64 10, .int .i64 100, .int .i64 4, .int .i64 200, .int .i64 20][j]? = some u := hu
    simpa using hu
  rintro e wf ⟨Af, cf, rfl, hF, hbf⟩
  have hbf0 : Below wt.heap.size wt wf := ((Below.refl _ wt).alloc (Nat.le_refl _) _).trans (hbf.mono (by simp))
  obtain ⟨b1, o1, x1, rfl, hx1, hc1⟩ := hT.at (i := 128) (by rw [tabL_length]; omega)
  obtain rfl : x1 = 65 := by have := hx1.out.symm.trans H5.out; simpa using this
  obtain ⟨b2, o2, x2, y2, rfl, hx2, hc2, hd2⟩ := hF.at (i := 1) (by decide)
  obtain ⟨rfl, rfl⟩ : x2 = 100 ∧ y2 = 7 := by have := hx2.out.symm.trans (show fitX[1]? = some (100, 7) from rfl); simpa using this
  have hc1 := cell_kept hbf0 hc1
  have hw1 : b1 < wf.heap.size := lt_of_cell hc1
  have hw2 : b2 < wf.heap.size := lt_of_cell hc2
  have hl1 : (tabL bentL).length = 256 := tabL_length _
  have hl2 : fitX.length = 4 := rfl
  have hacc := hacc.trans (hbf0.mono hacc.size)
  go_wp2
  go_ret
  exact ⟨rfl, (by repeat (first | assumption | exact Below.refl _ _ | refine below_drewN ?_ _ | refine Below.drew ?_ | refine Below.setCell ?_ (by first | exact Nat.le_refl _ | assumption | (simp; done) | (simp; omega) | omega) _ | refine Below.alloc ?_ (by first | exact Nat.le_refl _ | assumption | (simp; done) | omega | exact Below.size (by assumption) | (simp; omega)) _))⟩
end Go.Proofs.Ytlbnicapkfmdoaa
