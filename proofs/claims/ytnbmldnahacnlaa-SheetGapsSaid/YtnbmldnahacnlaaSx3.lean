/- Symbolic walks: how a step turns memory. No program in sight. -/
import Derived.Test.YtnbmldnahacnlaaSx2
namespace Go.Proofs.Ytnbmldnahacnlaa
open Go Go.RowKit

theorem ownsRow_heap {w w' : World} {base : Nat} {e : TypeId} {s : Nat} {v : Value} {n : Nat} {xs : List Value} (h : w.ownsRow base e s v n xs) (hg : ∀ g, ownBlk v = some g → w'.heap[g]? = w.heap[g]?) : w'.ownsRow base e s v n xs := by
  refine ⟨h.1, ?_⟩
  rcases h.2 with h2 | ⟨g, cap, cur, rfl, hb, hh, r⟩
  · exact .inl h2
  · exact .inr ⟨g, cap, cur, rfl, hb, (hg g rfl).trans hh, r⟩
theorem ABok.step {w0 w w' : World} {G G' : Gh} {id : Nat} {b : AB} (h : ABok w0 w G id b) (hx : Ext w G w' G') (hp : id < G.nx → G'.ρ id = G.ρ id ∧ G'.ln id = G.ln id ∧ ∀ g, ownBlk (G.ρ id) = some g → w'.heap[g]? = w.heap[g]?) : ABok w0 w' G' id b := by
  cases b with
  | dead => trivial
  | box cs e =>
    obtain ⟨h1, h2, g, vs, h3, h4, h5, h6⟩ := h
    obtain ⟨p1, p2, p3⟩ := hp h1
    refine ⟨Nat.lt_of_lt_of_le h1 hx.nx, by rw [← (hx.gh id h1).2.1]; exact h2, g, vs, by rw [p1]; exact h3, (p3 g (by rw [h3]; rfl)).trans h4, h5, fun i a hi => ?_⟩
    obtain ⟨v, g1, g2, g3⟩ := h6 i a hi
    exact ⟨v, g1, g2, g3.ext hx⟩
  | row sz rows e =>
    obtain ⟨h1, h2, h3, h4, flat, h5, h6, h7⟩ := h
    obtain ⟨p1, p2, p3⟩ := hp h1
    refine ⟨Nat.lt_of_lt_of_le h1 hx.nx, h2, by rw [← (hx.gh id h1).2.1]; exact h3, by rw [p2]; exact h4, flat, by rw [p1]; exact ownsRow_heap h5 p3, h6, fun i row hi => ?_⟩
    obtain ⟨g1, g2⟩ := h7 i row hi
    refine ⟨g1, fun j a hj => ?_⟩
    obtain ⟨v, g3, g4⟩ := g2 j a hj
    exact ⟨v, g3, g4.ext hx⟩
/-- one block turns, or is new -/
theorem HR.update {w0 w w' : World} {G G' : Gh} {hp : List (Nat × AB)} (h : HR w0 w G hp) (hx : Ext w G w' G') (hb : Below w0.heap.size w w') (id0 : Nat) (b' : AB)
    (ho : ∀ id, id ≠ id0 → id < G.nx → G'.ρ id = G.ρ id ∧ G'.ln id = G.ln id ∧ ∀ g, ownBlk (G.ρ id) = some g → w'.heap[g]? = w.heap[g]?)
    (hnx : ∀ id, id < G'.nx → id ≠ id0 → id < G.nx) (hown : ∀ b, G'.own b → w0.heap.size ≤ b ∧ b < w'.heap.size) (h0 : ABok w0 w' G' id0 b')
    (hd : ∀ id g, id < G.nx → id ≠ id0 → ownBlk (G'.ρ id0) = some g → ownBlk (G.ρ id) ≠ some g) (hoh : ∀ g, id0 < G'.nx → ownBlk (G'.ρ id0) = some g → G'.own g) : HR w0 w' G' ((id0, b') :: hp) := by
  refine ⟨hx.bs.trans h.bs, h.below.trans hb, hown, fun id => ?_, fun id id' g h1 h2 hne hg => ?_, fun id g h1 hg => ?_⟩
  · rw [look_cons]
    split
    · rename_i e; subst e; exact h0
    · rename_i hne
      exact (h.blk id).step hx (ho id (fun e => hne e.symm))
  · by_cases e1 : id = id0
    · subst e1
      have h2' := hnx id' h2 (fun e => hne e.symm)
      rw [(ho id' (fun e => hne e.symm) h2').1]
      exact hd id' g h2' (fun e => hne e.symm) hg
    · have h1' := hnx id h1 e1
      rw [(ho id e1 h1').1] at hg
      by_cases e2 : id' = id0
      · subst e2
        intro hg'
        exact hd id g h1' e1 hg' hg
      · have h2' := hnx id' h2 e2
        rw [(ho id' e2 h2').1]
        exact h.dist id id' g h1' h2' hne hg
  · by_cases e1 : id = id0
    · subst e1; exact hoh g h1 hg
    · have h1' := hnx id h1 e1
      rw [(ho id e1 h1').1] at hg
      exact hx.own1 g (h.ownhas id g h1' hg)
/-- nothing of the call's own turns -/
theorem HR.same {w0 w w' : World} {G : Gh} {hp : List (Nat × AB)} (h : HR w0 w G hp) (hb : Below w.heap.size w w') : HR w0 w' G hp ∧ Ext w G w' G := by
  have hx : Ext w G w' G := ⟨hb.size, fun b _ hl => hb.block b hl, fun _ h => h, fun _ h => .inl h, Nat.le_refl _, rfl, fun _ _ => ⟨Nat.le_refl _, rfl, fun _ => rfl, fun _ => rfl⟩⟩
  refine ⟨⟨h.bs, h.below.trans (hb.mono h.below.size), fun b ho => ?_, fun id => (h.blk id).step hx fun hid => ⟨rfl, rfl, fun g hg => hb.block g (h.ownlt g (h.ownhas id g hid hg)).2⟩, h.dist, h.ownhas⟩, hx⟩
  have := h.ownlt b ho
  have := hb.size
  omega

section
variable {K : Kn} {n : Nat} {st : ASt} {a : Act} {w : World} {G : Gh}
theorem RelG.same (r : RelG K n st a w G) {w' : World} (hb : Below w.heap.size w w') : RelG K n st a w' G :=
  ⟨r.nx, (r.hr.same hb).1, r.ext.trans (r.hr.same hb).2, r.size, r.defers, fun d => (r.regs d).ext (r.hr.same hb).2⟩
theorem RelG.turn (r : RelG K n st a w G) {w' : World} {G' : Gh} {hp : List (Nat × AB)} (hnx : Nat) (hn : G'.nx = hnx) (hr : HR K.w0 w' G' hp) (hx : Ext w G w' G') : RelG K n ⟨st.regs, hp, hnx⟩ a w' G' :=
  ⟨hn, hr, r.ext.trans hx, r.size, r.defers, fun d => (r.regs d).ext hx⟩
def Gh.add (G : Gh) (v : Value) (ln sz : Nat) : Gh := ⟨fun id => if id = G.nx then v else G.ρ id, fun b => G.own b ∨ ownBlk v = some b, fun id => if id = G.nx then ln else G.ln id, fun id => if id = G.nx then sz else G.sz id, G.nx + 1, G.bs⟩
theorem Ext.add {w' : World} (hb : Below w.heap.size w w') {v : Value} (hv : ∀ g, ownBlk v = some g → w.heap.size ≤ g) (ln sz : Nat) : Ext w G w' (G.add v ln sz) := by
  refine ⟨hb.size, fun b _ hl => hb.block b hl, fun _ h => .inl h, fun b h => h.imp id (hv b), Nat.le_succ _, rfl, fun id hid => ?_⟩
  have hne : id ≠ G.nx := by omega
  simp [Gh.add, hne]
/-- a new block of the call's own -/
theorem RelG.new (r : RelG K n st a w G) {w' : World} (hb : Below w.heap.size w w') {v : Value} {ln sz : Nat} {b : AB} (hv : ∀ g, ownBlk v = some g → w.heap.size ≤ g ∧ g < w'.heap.size) (hok : ABok K.w0 w' (G.add v ln sz) st.nx b) :
    RelG K n (st.hnew b) a w' (G.add v ln sz) := by
  have hx : Ext w G w' (G.add v ln sz) := Ext.add hb (fun g hg => (hv g hg).1) ln sz
  have hnx := r.nx
  refine r.turn (st.nx + 1) (by show G.nx + 1 = _; rw [hnx]) ?_ hx
  rw [← hnx] at hok ⊢
  refine r.hr.update hx (hb.mono r.hr.below.size) G.nx b (fun id hne hid => ?_) (fun id h1 h2 => ?_) (fun g hg => ?_) hok (fun id g h1 h2 hg he => ?_) (fun g _ hg => ?_)
  · refine ⟨by simp [Gh.add, hne], by simp [Gh.add, hne], fun g hg => hb.block g (r.hr.ownlt g (r.hr.ownhas id g hid hg)).2⟩
  · have : id < G.nx + 1 := h1
    omega
  · rcases hg with hg | hg
    · have := r.hr.ownlt g hg
      have := hb.size
      omega
    · have := hv g hg
      have := r.hr.below.size
      omega
  · simp only [Gh.add, if_true] at hg
    have h3 := r.hr.ownlt g (r.hr.ownhas id g h1 he)
    have h4 := hv g hg
    omega
  · simp only [Gh.add, if_true] at hg
    exact .inr hg
theorem below_alloc' (w : World) (o : Obj) : Below w.heap.size w (w.alloc o) := (Below.refl _ _).alloc (Nat.le_refl _) o
theorem below_drew' (w : World) : Below w.heap.size w w.drew := (Below.refl _ _).drew
/-- values of the cells of a box -/
structure CellsV (w : World) (G : Gh) (cs : List AV) (vs : Array Value) : Prop where
  size : vs.size = cs.length
  one : ∀ (i : Nat) (v : Value), vs[i]? = some v → v.oneCell' = true
  rel : ∀ (i : Nat) (a : AV) (v : Value), cs[i]? = some a → vs[i]? = some v → RelV w G a v
theorem RelG.newBox (r : RelG K n st a w G) {cs : List AV} {vs : Array Value} (hc : CellsV w G cs vs) (e : TypeId) :
    RelG K n (st.hnew (.box cs e)) a (w.alloc (.cells vs e)) (G.add (.pointer (some ⟨w.heap.size, 0, none⟩)) 0 0) ∧ RelV (w.alloc (.cells vs e)) (G.add (.pointer (some ⟨w.heap.size, 0, none⟩)) 0 0) (.box st.nx 0) (.pointer (some ⟨w.heap.size, 0, none⟩)) := by
  have hx : Ext w G (w.alloc (.cells vs e)) (G.add (.pointer (some ⟨w.heap.size, 0, none⟩)) 0 0) := Ext.add (below_alloc' _ _) (fun g hg => by simp [ownBlk] at hg; omega) 0 0
  have hnx := r.nx
  have hv : (if st.nx = G.nx then (Value.pointer (some ⟨w.heap.size, 0, none⟩)) else G.ρ st.nx) = .pointer (some ⟨w.heap.size, 0, none⟩) := if_pos hnx.symm
  refine ⟨r.new (below_alloc' _ _) (fun g hg => by simp [ownBlk] at hg; simp; omega) ⟨?_, ?_, w.heap.size, vs, hv, heap_alloc_new w _, hc.size, fun i x hi => ?_⟩, .box _ _ _ ?_ ?_ hv⟩
  · show st.nx < G.nx + 1; omega
  · show (if st.nx = G.nx then 0 else G.sz st.nx) = 0; rw [if_pos hnx.symm]
  · have hl : i < vs.size := by rw [hc.size]; exact (List.getElem?_eq_some_iff.1 hi).1
    have hvi : vs[i]? = some vs[i] := Array.getElem?_eq_getElem hl
    exact ⟨vs[i], hvi, hc.one i _ hvi, (hc.rel i x _ hi hvi).ext hx⟩
  · show st.nx < G.nx + 1; omega
  · show (if st.nx = G.nx then 0 else G.sz st.nx) = 0; rw [if_pos hnx.symm]

/-- a box read -/
theorem RelG.boxAt (r : RelG K n st a w G) {id : Nat} {cs : List AV} {e : TypeId} (hb : look .dead st.heap id = .box cs e) {off : Nat} {v : Value} (hv : RelV w G (.box id off) v) :
    ∃ g vs, v = .pointer (some ⟨g, off, none⟩) ∧ G.ρ id = .pointer (some ⟨g, 0, none⟩) ∧ w.heap[g]? = some (.cells vs e (0, 0)) ∧ vs.size = cs.length ∧ (∀ (i : Nat) (a : AV), cs[i]? = some a → ∃ u, vs[i]? = some u ∧ u.oneCell' = true ∧ RelV w G a u) := by
  have hk := r.hr.blk id
  rw [hb] at hk
  obtain ⟨_, _, g, vs, h3, h4, h5, h6⟩ := hk
  cases hv with
  | dat h => cases h
  | box _ _ g' hid hs h =>
    rw [h3] at h
    injection h with h
    injection h with h
    injection h with h _ _
    subst h
    exact ⟨g, vs, rfl, h3, h4, h5, h6⟩
theorem cell_of_cells {w : World} {g i : Nat} {vs : Array Value} {e : TypeId} {f : Nat × Nat} {u : Value} (h : w.heap[g]? = some (.cells vs e f)) (hu : vs[i]? = some u) : w.cell? ⟨g, i, none⟩ = some u := by
  simp [World.cell?, h, hu]
theorem unfrozen_of_cells {w : World} {g i : Nat} {vs : Array Value} {e : TypeId} (h : w.heap[g]? = some (.cells vs e (0, 0))) : w.frozen? ⟨g, i, none⟩ = false := by
  simp [World.frozen?, h]
theorem heap_setCell_self {w : World} {g i : Nat} {vs : Array Value} {e : TypeId} (h : w.heap[g]? = some (.cells vs e (0, 0))) (u : Value) : (w.setCell ⟨g, i, none⟩ u).heap[g]? = some (.cells (vs.setIfInBounds i u) e (0, 0)) := by
  simp [World.setCell, Array.getElem?_modify, h]
/-- a cell of a box written -/
theorem RelG.setBox (r : RelG K n st a w G) {id : Nat} {cs : List AV} {e : TypeId} (hb : look .dead st.heap id = .box cs e) {off g : Nat} (hρ : G.ρ id = .pointer (some ⟨g, 0, none⟩)) {x : AV} {u : Value} (hu : RelV w G x u) (h1 : u.oneCell' = true) :
    RelG K n (st.hset id (.box (cs.set off x) e)) a (w.setCell ⟨g, off, none⟩ u) G := by
  have hk := r.hr.blk id
  rw [hb] at hk
  obtain ⟨hid, hs, g', vs, h3, h4, h5, h6⟩ := hk
  rw [h3] at hρ
  injection hρ with hρ
  injection hρ with hρ
  injection hρ with hρ _ _
  subst hρ
  have hog : G.own g' := r.hr.ownhas id g' hid (by rw [h3]; rfl)
  have hlt := r.hr.ownlt g' hog
  have hb0 : Below K.w0.heap.size w (w.setCell ⟨g', off, none⟩ u) := (Below.refl _ _).setCell hlt.1 u
  have hx : Ext w G (w.setCell ⟨g', off, none⟩ u) G := ⟨hb0.size, fun b ho hl => Below.heap_setCell _ _ _ _ (fun e => ho (e ▸ hog)), fun _ h => h, fun _ h => .inl h, Nat.le_refl _, rfl, fun _ _ => ⟨Nat.le_refl _, rfl, fun _ => rfl, fun _ => rfl⟩⟩
  refine r.turn st.nx r.nx (r.hr.update hx hb0 id _ (fun id' hne hid' => ⟨rfl, rfl, fun gg hgg => Below.heap_setCell _ _ _ _ ?_⟩) (fun id' h _ => h) (fun b ho => ?_) ⟨hid, hs, g', vs.setIfInBounds off u, h3, heap_setCell_self h4 u, by simpa using h5, fun i y hi => ?_⟩ (fun id' gg hid' hne hg => ?_) (fun gg _ hg => ?_)) hx
  · intro e1
    have e1 : gg = g' := e1
    subst e1
    exact r.hr.dist id' id gg hid' hid hne hgg (by rw [h3]; rfl)
  · have := r.hr.ownlt b ho
    have := hb0.size
    omega
  · rw [List.getElem?_set] at hi
    by_cases e1 : off = i
    · subst e1
      by_cases hl : off < cs.length
      · rw [if_pos rfl, if_pos hl] at hi
        injection hi with hi
        subst hi
        exact ⟨u, by simp [h5, hl], h1, hu.ext hx⟩
      · rw [if_pos rfl, if_neg hl] at hi; cases hi
    · rw [if_neg e1] at hi
      obtain ⟨v, g1, g2, g3⟩ := h6 i y hi
      exact ⟨v, by rw [Array.getElem?_setIfInBounds, if_neg e1]; exact g1, g2, g3.ext hx⟩
  · exact r.hr.dist id id' gg hid hid' (fun e => hne e.symm) hg
  · exact r.hr.ownhas id gg hid hg
end
end Go.Proofs.Ytnbmldnahacnlaa
