/- Walk of Predict. -/
import Derived.Test.YtlbnicapkfmdoaaOver5
import Derived.Test.YtlbnicapkfmdoaaLab
import Derived.Test.YtlbnicapkfmdoaaRegV
namespace Go.Proofs.Ytlbnicapkfmdoaa
open Go.RowKit

/-- a slice of colours -/
def Labs (w : World) (A : Option Addr) (ls : List (Int × Int × Int)) : Prop :=
  ∀ i p, ls[i]? = some p → ∃ b o, A = some ⟨b, o, none⟩ ∧ w.cell? ⟨b, o + i * 3, none⟩ = some (.int .i64 p.1) ∧ w.cell? ⟨b, o + i * 3 + 1, none⟩ = some (.int .i64 p.2.1) ∧ w.cell? ⟨b, o + i * 3 + 2, none⟩ = some (.int .i64 p.2.2)
theorem Labs.kept {w w' : World} {A : Option Addr} {ls : List (Int × Int × Int)} (h : Labs w A ls) (hb : Below w.heap.size w w') : Labs w' A ls := fun i p hp =>
  let ⟨b, o, e, h1, h2, h3⟩ := h i p hp
  ⟨b, o, e, cell_kept hb h1, cell_kept hb h2, cell_kept hb h3⟩
theorem Labs.at {w : World} {A : Option Addr} {ls : List (Int × Int × Int)} (h : Labs w A ls) {i : Nat} (hi : i < ls.length) :
    ∃ b o x y z, A = some ⟨b, o, none⟩ ∧ Hid (ls[i]? = some (x, y, z)) ∧ w.cell? ⟨b, o + i * 3, none⟩ = some (.int .i64 x) ∧ w.cell? ⟨b, o + i * 3 + 1, none⟩ = some (.int .i64 y) ∧ w.cell? ⟨b, o + i * 3 + 2, none⟩ = some (.int .i64 z) := by
  have hx : ls[i]? = some ls[i] := List.getElem?_eq_getElem hi
  obtain ⟨b, o, e, h1, h2, h3⟩ := h i _ hx
  exact ⟨b, o, ls[i].1, ls[i].2.1, ls[i].2.2, e, hx, h1, h2, h3⟩
def lab0 (p : Int × Int × Int) : Bool := labE p.1 p.2.1 p.2.2 == 0
def labsE (ls : List (Int × Int × Int)) : Int := if ls.all lab0 = true then 0 else 3
def dotK (ls : List (Int × Int × Int)) (ws : List Int) (f : Int × Int × Int → Int) (k : Nat) : Int := ((List.range k).map fun i => ws.getD i 0 * f (ls.getD i (0, 0, 0))).sum
theorem dotK_succ (ls : List (Int × Int × Int)) (ws : List Int) (f : Int × Int × Int → Int) (k : Nat) : dotK ls ws f (k + 1) = dotK ls ws f k + ws.getD k 0 * f (ls.getD k (0, 0, 0)) := by
  unfold dotK
  rw [List.range_succ, List.map_append, List.sum_append]
  simp
def predC (ls : List (Int × Int × Int)) (ts : List Int) (f : Int × Int × Int → Int) : Int := rnd (dotK ls (shareL ts) f ls.length) (255 ^ ts.length)
def predF (ls : List (Int × Int × Int)) (ts : List Int) : (Int × Int × Int) × Int :=
  if checkE ts ≠ 0 then ((0, 0, 0), checkE ts) else if ls.length ≠ 2 ^ ts.length then ((0, 0, 0), 4) else if ls.all lab0 = true then ((predC ls ts (·.1), predC ls ts (·.2.1), predC ls ts (·.2.2)), 0) else ((0, 0, 0), 3)
theorem st_other {w : World} {a p : Addr} {u v : Value} (h : w.cell? a = some u) (hne : p ≠ a) : (w.drew.setCell p v).cell? a = some u := by
  rw [World.cell?_setCell_other _ _ _ _ hne]; simpa [go_sem] using h
theorem st_self {w : World} {p : Addr} {u v : Value} (h : w.cell? p = some u) : (w.drew.setCell p v).cell? p = some v := by
  simp [go_sem, h]
theorem st_frozen {w : World} {a p : Addr} {v : Value} : (w.drew.setCell p v).frozen? a = w.frozen? a := by simp [go_sem]
theorem st_below {B : Nat} {w0 w : World} {p : Addr} {v : Value} (h : Below B w0 w) (hB : B ≤ p.block) : Below B w0 (w.drew.setCell p v) := (Below.drew h).setCell hB _
end Go.Proofs.Ytlbnicapkfmdoaa
