/- Slices that a call makes: what is kept, what they read as. -/
import Derived.Test.YtlbnicapkfmdoaaMem2
namespace Go.Proofs.Ytlbnicapkfmdoaa
open Go.RowKit

theorem intInfo : (Try.prog.info? 3).map (fun i => (i.zero, i.size, i.bytes)) = some (some (.int .i64 0), 1, 8) := by kernel_rfl

theorem grown_of_below {a w : World} (h : Below a.heap.size a w) (row : Option Nat) : a.grownBy w row := ⟨h.os, h.tape, h.output, h.size, fun i hi _ => h.block i hi⟩
theorem below_of_grown {a w : World} (h : a.grownBy w none) : Below a.heap.size a w := ⟨h.os, h.tape, h.output, h.size, fun i hi => h.block i hi (by simp)⟩
theorem own_kept {w w' : World} {base : Nat} {e : TypeId} {size : Nat} {v : Value} {n : Nat} {xs : List Value} (h : w.ownsRow base e size v n xs) (hb : Below w.heap.size w w') : w'.ownsRow base e size v n xs :=
  h.kept (grown_of_below hb none) (by cases v.ownBlock <;> simp)
theorem own_cells {w : World} {base : Nat} {e : TypeId} {A : Option Addr} {n c : Nat} {xs : List Value} (h : w.ownsRow base e 1 (.slice A n c) n xs) : Cells w A xs := by
  intro i v hi
  have hlen : i < n := by
    have := (List.getElem?_eq_some_iff.1 hi).1
    have := h.1
    omega
  obtain ⟨g, cap, hv, _⟩ := h.form (by omega)
  injection hv with hA _ _
  subst hA
  exact ⟨g, 0, rfl, by rw [Nat.zero_add]; have := h.cells (g := g) rfl i v hi; rwa [Addr.add_lit, Nat.zero_add] at this⟩
theorem own_ints {w : World} {base : Nat} {e : TypeId} {A : Option Addr} {n c : Nat} {xs : List Int} (h : w.ownsRow base e 1 (.slice A n c) n (xs.map (.int .i64))) : Ints w A xs := own_cells h

/-- what a call of two results leaves: a slice of numbers and an error -/
def OutInts (xs : List Int) (err : Int) (w : World) (e : Ending) (w' : World) : Prop :=
  ∃ A c, e = .returned (.tuple #[.slice A xs.length c, .int .i64 err]) ∧ Ints w' A xs ∧ Below w.heap.size w w'
/-- what a call of one result leaves: a slice of numbers -/
def OutInts1 (xs : List Int) (w : World) (e : Ending) (w' : World) : Prop :=
  ∃ A c, e = .returned (.slice A xs.length c) ∧ Ints w' A xs ∧ Below w.heap.size w w'

/-- the first k of n values, then zeros -/
def partL (n : Nat) (f : Nat → Int) (k : Nat) : List Int := (List.range n).map fun v => if v < k then f v else 0
theorem partL_length (n : Nat) (f : Nat → Int) (k : Nat) : (partL n f k).length = n := by simp [partL]
theorem partL_set {n : Nat} {f : Nat → Int} {k : Nat} : (partL n f k).set k (f k) = partL n f (k + 1) := by
  apply List.ext_getElem
  · simp [partL]
  · intro i h1 h2
    simp only [partL, List.getElem_set, List.getElem_map, List.getElem_range]
    split
    · rename_i h; subst h; rw [if_pos (by omega)]
    · rename_i h
      by_cases hi : i < k
      · rw [if_pos hi, if_pos (by omega)]
      · rw [if_neg hi, if_neg (by omega)]
theorem partL_zero (n : Nat) (f : Nat → Int) : partL n f 0 = List.replicate n 0 := by
  apply List.ext_getElem
  · simp [partL]
  · intro i h1 h2
    simp [partL]
theorem partL_all (n : Nat) (f : Nat → Int) : partL n f n = (List.range n).map f := by
  apply List.ext_getElem
  · simp [partL]
  · intro i h1 h2
    simp only [partL, List.getElem_map, List.getElem_range]
    rw [if_pos (by simpa [partL] using h1)]
theorem partL_at {n : Nat} {f : Nat → Int} {k : Nat} (h : k < n) : ((partL n f k).map (Value.int .i64))[k]? = some (.int .i64 0) := by
  simp [partL, h]
theorem map_set_int (l : List Int) (k : Nat) (x : Int) : (l.map (Value.int .i64)).set k (.int .i64 x) = (l.set k x).map (Value.int .i64) := by
  rw [List.map_set]
theorem made_one (z : Value) (n : Nat) : (madeCells #[z] n).toList = List.replicate n z := by
  unfold madeCells
  apply List.ext_getElem
  · simp
  · intro i h1 h2
    simp [Nat.mod_one]
theorem madeInts (n : Nat) : (madeCells (Value.int .i64 0).cells (n * 1)).toList = (List.replicate n (0 : Int)).map (Value.int .i64) := by
  rw [List.map_replicate, Nat.mul_one]
  exact made_one _ n
end Go.Proofs.Ytlbnicapkfmdoaa
