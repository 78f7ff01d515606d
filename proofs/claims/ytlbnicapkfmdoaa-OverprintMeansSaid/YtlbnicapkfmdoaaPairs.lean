/- Rows of pairs of numbers that a call owns. -/
import Derived.Test.YtlbnicapkfmdoaaOwn
namespace Go.Proofs.Ytlbnicapkfmdoaa
open Go.RowKit

/-- pairs as cells -/
def encP (l : List (Int × Int)) : List Value := l.flatMap fun p => [.int .i64 p.1, .int .i64 p.2]
theorem encP_nil : encP [] = [] := rfl
theorem encP_cons (p : Int × Int) (l : List (Int × Int)) : encP (p :: l) = .int .i64 p.1 :: .int .i64 p.2 :: encP l := rfl
theorem encP_append (a b : List (Int × Int)) : encP (a ++ b) = encP a ++ encP b := by simp [encP]
theorem encP_length (l : List (Int × Int)) : (encP l).length = l.length * 2 := by
  induction l with
  | nil => rfl
  | cons p l ih => rw [encP_cons]; simp [ih]; omega
theorem encP_at {l : List (Int × Int)} {i : Nat} {x y : Int} (h : l[i]? = some (x, y)) : (encP l)[i * 2]? = some (.int .i64 x) ∧ (encP l)[i * 2 + 1]? = some (.int .i64 y) := by
  induction l generalizing i with
  | nil => simp at h
  | cons p l ih =>
    cases i with
    | zero => simp at h; subst h; simp [encP_cons]
    | succ i =>
      have := ih (i := i) (by simpa using h)
      rw [encP_cons, show (i + 1) * 2 = i * 2 + 1 + 1 from by omega]
      simpa using this
theorem encP_one {l : List (Int × Int)} : ∀ u ∈ encP l, u.oneCell' = true := by
  intro u hu
  simp only [encP, List.mem_flatMap, List.mem_cons, List.not_mem_nil, or_false] at hu
  obtain ⟨p, _, rfl | rfl⟩ := hu <;> rfl
theorem own_pts {w : World} {base : Nat} {e : TypeId} {A : Option Addr} {n c : Nat} {ps : List (Int × Int)} (h : w.ownsRow base e 2 (.slice A n c) n (encP ps)) : Pts w A ps := by
  intro i p hi
  have hl : i < ps.length := (List.getElem?_eq_some_iff.1 hi).1
  have hn : n = ps.length := by have := h.1; rw [encP_length] at this; omega
  obtain ⟨g, cap, hv, _⟩ := h.form (by omega)
  injection hv with hA _ _
  subst hA
  obtain ⟨h1, h2⟩ := encP_at (x := p.1) (y := p.2) hi
  have c1 := h.cells (g := g) rfl _ _ h1
  have c2 := h.cells (g := g) rfl _ _ h2
  rw [Addr.add_lit, Nat.zero_add] at c1 c2
  exact ⟨g, 0, rfl, by rw [Nat.zero_add]; exact c1, by rw [Nat.zero_add]; exact c2⟩
theorem own_at {w : World} {base : Nat} {e : TypeId} {A : Option Addr} {n c : Nat} {ps : List (Int × Int)} (h : w.ownsRow base e 2 (.slice A n c) n (encP ps)) {i : Nat} {x y : Int} (hi : ps[i]? = some (x, y)) :
    ∃ g, A = some ⟨g, 0, none⟩ ∧ base ≤ g ∧ w.cell? ⟨g, i * 2, none⟩ = some (.int .i64 x) ∧ w.cell? ⟨g, i * 2 + 1, none⟩ = some (.int .i64 y) := by
  have hl : i < ps.length := (List.getElem?_eq_some_iff.1 hi).1
  have hn : n = ps.length := by have := h.1; rw [encP_length] at this; omega
  obtain ⟨g, cap, hv, hb, _⟩ := h.form (by omega)
  injection hv with hA _ _
  subst hA
  obtain ⟨h1, h2⟩ := encP_at hi
  have c1 := h.cells (g := g) rfl _ _ h1
  have c2 := h.cells (g := g) rfl _ _ h2
  rw [Addr.add_lit, Nat.zero_add] at c1 c2
  exact ⟨g, rfl, hb, c1, c2⟩
/-- rows of different element types lie in different blocks -/
theorem own_ne {w : World} {base base' : Nat} {e e' : TypeId} {s s' : Nat} {v v' : Value} {n n' : Nat} {xs xs' : List Value} (h : w.ownsRow base e s v n xs) (h' : w.ownsRow base' e' s' v' n' xs') (hne : e ≠ e') :
    v.ownBlock = none ∨ v.ownBlock ≠ v'.ownBlock := by
  rcases h.2 with ⟨rfl, _⟩ | ⟨g, cap, cur, rfl, _, hg, _⟩
  · left; rfl
  · right
    rcases h'.2 with ⟨rfl, _⟩ | ⟨g', cap', cur', rfl, _, hg', _⟩
    · simp [Value.ownBlock]
    · intro he
      have : g = g' := by simpa [Value.ownBlock] using he
      subst this
      rw [hg] at hg'
      injection hg' with hg'
      injection hg' with _ ht
      exact hne ht
theorem own_cap {w : World} {base : Nat} {e : TypeId} {s : Nat} {A : Option Addr} {n c : Nat} {xs : List Value} (h : w.ownsRow base e s (.slice A n c) n xs) : n ≤ c := by
  rcases h.2 with ⟨h1, _⟩ | ⟨g, cap, cur, h1, _, _, h2, _⟩ <;> injection h1 <;> omega
theorem own_old {w : World} {base : Nat} {e : TypeId} {s : Nat} {v : Value} {n : Nat} {xs : List Value} (h : w.ownsRow base e s v n xs) (g : Nat) (hg : v.ownBlock = some g) : g < w.heap.size := by
  rcases h.2 with ⟨rfl, _⟩ | ⟨g', cap, cur, rfl, hb, hh, _⟩
  · simp [Value.ownBlock] at hg
  · simp [Value.ownBlock] at hg; subst hg; exact (Array.getElem?_eq_some_iff.1 hh).1
theorem own_set {w : World} {base : Nat} {e : TypeId} {s : Nat} {v : Value} {n : Nat} {xs : List Value} (h : w.ownsRow base e s v n xs) {p : Addr} (hp : v.ownBlock ≠ some p.block) (u : Value) : (w.setCell p u).ownsRow base e s v n xs := by
  refine ⟨h.1, ?_⟩
  rcases h.2 with h2 | ⟨g, cap, cur, rfl, hg, hh, r⟩
  · exact .inl h2
  · refine .inr ⟨g, cap, cur, rfl, hg, ?_, r⟩
    rw [Below.heap_setCell _ _ _ _ (by intro he; subst he; exact hp rfl)]
    exact hh
theorem cell_grown {w w' : World} {row : Option Nat} (hg : w.grownBy w' row) {a : Addr} {v : Value} (h : w.cell? a = some v) (hne : row ≠ some a.block) : w'.cell? a = some v :=
  (World.cell?_of_block (hg.block _ (lt_of_cell h) (fun e => hne e.symm))).trans h
theorem frozen_grown {w w' : World} {row : Option Nat} (hg : w.grownBy w' row) {a : Addr} (ha : a.block < w.heap.size) (h : w.frozen? a = false) (hne : row ≠ some a.block) : w'.frozen? a = false :=
  (World.frozen?_of_block (hg.block _ ha (fun e => hne e.symm))).trans h
/-- a row of one pair that was just laid -/
theorem own_new2 (w : World) (base : Nat) (e : TypeId) (a b : Value) (H : Nat) (hH : w.heap.size = H) (hb : base ≤ H) : (w.alloc (.cells #[a, b] e)).ownsRow base e 2 (.slice (some ⟨H, 0, none⟩) 1 1) 1 [a, b] := by
  subst hH
  exact ⟨rfl, .inr ⟨w.heap.size, 1, #[a, b], rfl, hb, heap_alloc_new w _, Nat.le_refl _, by simp [maxLen], rfl, rfl⟩⟩
/-- the cells of an owned row, as a source -/
theorem own_news {w : World} {base : Nat} {e : TypeId} {g n c s : Nat} {xs : List Value} (h : w.ownsRow base e s (.slice (some ⟨g, 0, none⟩) n c) n xs) : ∀ j u, xs[j]? = some u → w.cell? ((⟨g, 0, none⟩ : Addr).add j) = some u :=
  h.cells rfl
/-- two cells that were just laid -/
theorem news_two (w : World) (e : TypeId) (a b : Value) (H : Nat) (hH : w.heap.size = H) : ∀ j u, [a, b][j]? = some u → (w.alloc (.cells #[a, b] e)).cell? ((⟨H, 0, none⟩ : Addr).add j) = some u := by
  intro j u hu
  subst hH
  rw [Addr.add_lit, Nat.zero_add, World.cell?_alloc_new]
  simpa using hu
theorem one_two {k k' : IntKind} {a b : Int} : ∀ u ∈ [Value.int k a, Value.int k' b], u.oneCell' = true := by
  intro u hu
  simp only [List.mem_cons, List.not_mem_nil, or_false] at hu
  rcases hu with rfl | rfl <;> rfl
/-- the cell that one stores into, in a block that is known to hold a cell -/
theorem own_lt {w : World} {base : Nat} {e : TypeId} {s : Nat} {v : Value} {n : Nat} {xs : List Value} (h : w.ownsRow base e s v n xs) (g : Nat) (hg : v.ownBlock = some g) : base ≤ g := by
  rcases h.2 with ⟨rfl, _⟩ | ⟨g', cap, cur, rfl, hb, _⟩
  · simp [Value.ownBlock] at hg
  · simp [Value.ownBlock] at hg; omega
end Go.Proofs.Ytlbnicapkfmdoaa
