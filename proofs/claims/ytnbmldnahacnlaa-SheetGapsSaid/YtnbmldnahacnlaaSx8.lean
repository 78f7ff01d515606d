/- Symbolic walks: contracts on data alone. No program in sight. -/
import Derived.Test.YtnbmldnahacnlaaSx7
namespace Go.Proofs.Ytnbmldnahacnlaa
open Go Go.RowKit

/-- plain data: no blocks of one's own -/
def isD : AV → Bool
  | .int .. | .bool _ | .str _ | .nilp | .nils | .nilf | .ro .. | .any => true
  | _ => false
theorem RelV.isD {w : World} {G : Gh} {a : AV} {v : Value} (h : RelV w G a v) (hd : isD a = true) : RelD w G.own G.bs a v := by
  cases h with
  | dat h => exact h
  | _ => simp [Go.Proofs.Ytnbmldnahacnlaa.isD] at hd
mutual
/-- the same data, wherever they lie -/
def AV.old : AV → AV
  | .ro _ sz rows => .ro false sz (oldRR rows)
  | .any => .any
  | .und => .und
  | .int k n => .int k n
  | .bool b => .bool b
  | .str s => .str s
  | .nilp => .nilp
  | .nils => .nils
  | .nilf => .nilf
  | .box id o => .box id o
  | .elt id n i j => .elt id n i j
  | .peek row j => .peek row j
  | .osl id n => .osl id n
  | .agg cs => .agg cs
  | .tup cs => .tup cs
  | .fn f cs => .fn f cs
def oldR : List AV → List AV
  | [] => []
  | a :: l => a.old :: oldR l
def oldRR : List (List AV) → List (List AV)
  | [] => []
  | a :: l => oldR a :: oldRR l
end
theorem oldR_map (l : List AV) : oldR l = l.map AV.old := by
  induction l with
  | nil => rw [oldR]; rfl
  | cons a l ih => rw [oldR, ih]; rfl
theorem oldRR_map (l : List (List AV)) : oldRR l = l.map oldR := by
  induction l with
  | nil => rw [oldRR]; rfl
  | cons a l ih => rw [oldRR, ih]; rfl
theorem oldRR_enc {α : Type} (f : α → List AV) (h : ∀ x, oldR (f x) = f x) (l : List α) : oldRR (l.map f) = l.map f := by
  rw [oldRR_map, List.map_map]
  exact List.map_congr_left (fun x _ => h x)
theorem RelD.old {w : World} {own own' : Nat → Prop} {bs bs' : Nat} {a : AV} {v : Value} (h : RelD w own bs a v) (ho : ∀ b, own' b → own b) : RelD w own' bs' a.old v := by
  induction h with
  | ro fr sz rows A c f hc hm h0 h1 h2 ih =>
    rw [AV.old, oldRR_map]
    have hl : rows.length = (rows.map oldR).length := by simp
    rw [hl]
    refine .ro false sz _ A c f (by simpa using hc) hm (by simpa using h0) (fun i row j a g1 g2 => ?_) (fun i row j a g1 g2 => ?_)
    · rw [List.getElem?_map] at g1
      obtain ⟨row', g3, rfl⟩ := Option.map_eq_some_iff.1 g1
      rw [oldR_map, List.getElem?_map] at g2
      obtain ⟨a', g4, rfl⟩ := Option.map_eq_some_iff.1 g2
      obtain ⟨b, o, e1, e2, _, e4⟩ := h1 i row' j a' g3 g4
      exact ⟨b, o, e1, fun hb => e2 (ho b hb), (by intro e; cases e), e4⟩
    · rw [List.getElem?_map] at g1
      obtain ⟨row', g3, rfl⟩ := Option.map_eq_some_iff.1 g1
      rw [oldR_map, List.getElem?_map] at g2
      obtain ⟨a', g4, rfl⟩ := Option.map_eq_some_iff.1 g2
      exact ih i row' j a' g3 g4
  | any v => rw [AV.old]; exact .any v
  | und => rw [AV.old]; exact .und
  | int k n => rw [AV.old]; exact .int k n
  | bool b => rw [AV.old]; exact .bool b
  | str s => rw [AV.old]; exact .str s
  | nilp => rw [AV.old]; exact .nilp
  | nils => rw [AV.old]; exact .nils
  | nilf => rw [AV.old]; exact .nilf
/-- at the start of a callee: nothing is its own -/
def Gh.none (B : Nat) : Gh := ⟨fun _ => undef, fun _ => False, fun _ => 0, fun _ => 0, 0, B⟩
/-- what is handed back lies in new blocks -/
def Gh.frz (B : Nat) : Gh := ⟨fun _ => undef, fun b => b < B, fun _ => 0, fun _ => 0, 0, B⟩
/-- an argument, as the callee reads it -/
inductive FrzA (hp : List (Nat × AB)) : AV → AV → Prop
  | dat (a : AV) (h : isD a = true) (b : AV) (hb : a.old = b) : FrzA hp a b
  | osl (id n sz : Nat) (rows rows' : List (List AV)) (e : TypeId) (h : look .dead hp id = .row sz rows e) (hn : n = rows.length) (hd : ∀ row ∈ rows, ∀ a ∈ row, isD a = true) (hr : oldRR rows = rows') : FrzA hp (.osl id n) (.ro false sz rows')
  | oslN (id n sz : Nat) (rows rows' : List (List AV)) (e : TypeId) (h : look .dead hp id = .row sz rows e) (hn : n = rows.length) (hl : rows.length = rows'.length) (hll : ∀ (i : Nat) (row row' : List AV), rows[i]? = some row → rows'[i]? = some row' → row.length = row'.length)
      (hd : ∀ (i : Nat) (row row' : List AV) (j : Nat) (a a' : AV), rows[i]? = some row → rows'[i]? = some row' → row[j]? = some a → row'[j]? = some a' → FrzA hp a a') (hD : ∀ row ∈ rows', ∀ a ∈ row, isD a = true) : FrzA hp (.osl id n) (.ro false sz rows')
  | nilro (sz : Nat) : FrzA hp .nils (.ro false sz [])
  | agg (cs cs' : List AV) (hl : cs.length = cs'.length) (h : ∀ (i : Nat) (a b : AV), cs[i]? = some a → cs'[i]? = some b → FrzA hp a b) : FrzA hp (.agg cs) (.agg cs')
  | peekBox (id : Nat) (cs cs' : List AV) (e : TypeId) (h : look .dead hp id = .box cs e) (hl : cs.length = cs'.length) (h2 : ∀ (i : Nat) (a b : AV), cs[i]? = some a → cs'[i]? = some b → FrzA hp a b) (hD : ∀ b ∈ cs', isD b = true) (hne : cs' ≠ []) : FrzA hp (.box id 0) (.peek cs' 0)
  | peek (cs cs' : List AV) (j : Nat) (hl : cs.length = cs'.length) (h2 : ∀ (i : Nat) (a b : AV), cs[i]? = some a → cs'[i]? = some b → FrzA hp a b) (hD : ∀ b ∈ cs', isD b = true) (hne : cs' ≠ []) (hDa : ∀ a ∈ cs, isD a = true) : FrzA hp (.peek cs j) (.peek cs' j)
  | peekElt (id n i j sz : Nat) (rows : List (List AV)) (cs cs' : List AV) (e : TypeId) (h : look .dead hp id = .row sz rows e) (hn : n = rows.length) (hi : rows[i]? = some cs) (hl : cs.length = cs'.length) (h2 : ∀ (i : Nat) (a b : AV), cs[i]? = some a → cs'[i]? = some b → FrzA hp a b) (hD : ∀ b ∈ cs', isD b = true) (hne : cs' ≠ []) : FrzA hp (.elt id n i j) (.peek cs' j)
  | fn (f : FuncId) (cs cs' : List AV) (hl : cs.length = cs'.length) (h : ∀ (i : Nat) (a b : AV), cs[i]? = some a → cs'[i]? = some b → FrzA hp a b) : FrzA hp (.fn f cs) (.fn f cs')
/-- a result, as the caller will read it -/
inductive FrzR (hp : List (Nat × AB)) : AV → AV → Prop
  | dat (a : AV) (h : isD a = true) (hf : ∀ fr sz rows, a ≠ .ro fr sz rows) : FrzR hp a a
  | ro (sz : Nat) (rows : List (List AV)) (hd : ∀ row ∈ rows, ∀ a ∈ row, FrzR hp a a) (hD : ∀ row ∈ rows, ∀ a ∈ row, isD a = true) : FrzR hp (.ro true sz rows) (.ro true sz rows)
  | osl (id n sz : Nat) (rows : List (List AV)) (e : TypeId) (h : look .dead hp id = .row sz rows e) (hn : n = rows.length) (hd : ∀ row ∈ rows, ∀ a ∈ row, FrzR hp a a) (hD : ∀ row ∈ rows, ∀ a ∈ row, isD a = true) : FrzR hp (.osl id n) (.ro true sz rows)
  | oslN (id n sz : Nat) (rows rows' : List (List AV)) (e : TypeId) (h : look .dead hp id = .row sz rows e) (hn : n = rows.length) (hl : rows.length = rows'.length) (hll : ∀ (i : Nat) (row row' : List AV), rows[i]? = some row → rows'[i]? = some row' → row.length = row'.length)
      (hd : ∀ (i : Nat) (row row' : List AV) (j : Nat) (a a' : AV), rows[i]? = some row → rows'[i]? = some row' → row[j]? = some a → row'[j]? = some a' → FrzR hp a a') (hD : ∀ row ∈ rows', ∀ a ∈ row, isD a = true) : FrzR hp (.osl id n) (.ro true sz rows')
  | nilro (sz : Nat) : FrzR hp .nils (.ro true sz [])
  | agg (cs cs' : List AV) (hl : cs.length = cs'.length) (h : ∀ (i : Nat) (a b : AV), cs[i]? = some a → cs'[i]? = some b → FrzR hp a b) : FrzR hp (.agg cs) (.agg cs')
  | tup (cs cs' : List AV) (hl : cs.length = cs'.length) (h : ∀ (i : Nat) (a b : AV), cs[i]? = some a → cs'[i]? = some b → FrzR hp a b) : FrzR hp (.tup cs) (.tup cs')

/-- a row of the call's own, read as data -/
theorem row_ro {w0 w : World} {G : Gh} {own' : Nat → Prop} {bs' : Nat} {hp : List (Nat × AB)} {id n sz : Nat} {rows rows' : List (List AV)} {e : TypeId} {fr : Bool} {v : Value} (hHR : HR w0 w G hp) (h : look .dead hp id = .row sz rows e) (hn : n = rows.length) (hv : RelV w G (.osl id n) v)
    (hl : rows.length = rows'.length) (hr : ∀ (i : Nat) (row row' : List AV) (j : Nat) (a' : AV), rows[i]? = some row → rows'[i]? = some row' → row'[j]? = some a' → ∃ a, row[j]? = some a ∧ ∀ u, RelV w G a u → RelD w own' bs' a' u)
    (ho : ∀ b, G.own b → ¬ own' b) (hb : fr = true → ∀ b, G.own b → bs' ≤ b) : RelD w own' bs' (.ro fr sz rows') v := by
  have hk := hHR.blk id
  rw [h] at hk
  obtain ⟨q1, q2, q3, q4, flat, q5, q6, q7⟩ := hk
  have ev : v = G.ρ id := by
    cases hv with
    | dat h => cases h
    | osl _ _ _ _ _ _ _ hh => exact hh (by rw [q4, hn])
  subst ev
  rcases q5.2 with ⟨e1, e2⟩ | ⟨gg, cap, cur, e1, _, hh, hcap, hcm, _, _⟩
  · rw [e1]
    have hr0 : rows' = [] := List.eq_nil_of_length_eq_zero (by omega)
    subst hr0
    exact .ro fr sz [] none 0 (fun _ _ => undef) (Nat.le_refl _) (by simp [maxLen]) (fun i hi => by simp at hi) (fun i row j a g => by simp at g) (fun i row j a g => by simp at g)
  · have hog : G.own gg := hHR.ownhas id gg q1 (by rw [e1]; rfl)
    have q5' := q5
    rw [e1] at q5'
    rw [e1, hl]
    have key : ∀ (i : Nat) (row' : List AV) (j : Nat) (a' : AV), rows'[i]? = some row' → row'[j]? = some a' → ∃ u, flat[i * sz + j]? = some u ∧ w.cell? ⟨gg, i * sz + j, none⟩ = some u ∧ RelD w own' bs' a' u := by
      intro i row' j a' g1 g2
      have hil : i < rows.length := by rw [hl]; exact (List.getElem?_eq_some_iff.1 g1).1
      have g3 : rows[i]? = some rows[i] := List.getElem?_eq_getElem hil
      obtain ⟨a, g4, g5⟩ := hr i _ row' j a' g3 g1 g2
      obtain ⟨u, g6, g7⟩ := (q7 i _ g3).2 j a g4
      refine ⟨u, g6, ?_, g5 u g7⟩
      rw [q5'.cellAt _ (by have := (List.getElem?_eq_some_iff.1 g6).1; rw [q5.1] at this; exact this), g6]
    refine .ro fr sz rows' (some ⟨gg, 0, none⟩) cap (fun i j => flat.getD (i * sz + j) undef) (by omega) hcm (fun _ _ => by simp) (fun i row j a g1 g2 => ?_) (fun i row j a g1 g2 => ?_)
    · obtain ⟨u, g3, g4, _⟩ := key i row j a g1 g2
      refine ⟨gg, 0, rfl, ho gg hog, fun e => hb e gg hog, ?_⟩
      rw [Nat.zero_add, g4, List.getD_eq_getElem?_getD, g3]; rfl
    · obtain ⟨u, g3, _, g5⟩ := key i row j a g1 g2
      rw [List.getD_eq_getElem?_getD, g3]; exact g5
theorem FrzA.rel {w0 w : World} {G : Gh} {hp : List (Nat × AB)} (hHR : HR w0 w G hp) {a b : AV} (h : FrzA hp a b) : ∀ {v : Value}, RelV w G a v → RelV w (Gh.none w.heap.size) b v := by
  induction h with
  | dat a h b hb =>
    intro v r
    subst hb
    exact .dat ((r.isD h).old (fun _ h => h.elim))
  | osl id n sz rows rows' e h hn hd hr =>
    intro v r
    subst hr
    refine .dat (row_ro hHR h hn r (by rw [oldRR_map]; simp) (fun i row row' j a' g1 g2 g3 => ?_) (fun _ _ h => h) (fun e => by cases e))
    rw [oldRR_map, List.getElem?_map, g1] at g2
    simp at g2
    subst g2
    rw [oldR_map, List.getElem?_map] at g3
    obtain ⟨a, g4, rfl⟩ := Option.map_eq_some_iff.1 g3
    exact ⟨a, g4, fun u hu => (hu.isD (hd row (List.mem_of_getElem? g1) a (List.mem_of_getElem? g4))).old (fun _ h => h.elim)⟩
  | oslN id n sz rows rows' e h hn hl hll hd hD ih =>
    intro v r
    refine .dat (row_ro hHR h hn r hl (fun i row row' j a' g1 g2 g3 => ?_) (fun _ _ h => h) (fun e => by cases e))
    have hj : j < row.length := by rw [hll i row row' g1 g2]; exact (List.getElem?_eq_some_iff.1 g3).1
    have g4 : row[j]? = some row[j] := List.getElem?_eq_getElem hj
    exact ⟨_, g4, fun u hu => (ih i row row' j _ a' g1 g2 g4 g3 hu).isD (hD row' (List.mem_of_getElem? g2) a' (List.mem_of_getElem? g3))⟩
  | nilro sz =>
    intro v r
    have := r.nils'
    subst this
    exact .dat (.ro false sz [] none 0 (fun _ _ => undef) (Nat.le_refl _) (by simp [maxLen]) (fun i hi => by simp at hi) (fun i row j a g => by simp at g) (fun i row j a g => by simp at g))
  | agg cs cs' hl h ih =>
    intro v r
    obtain ⟨us, rfl, hsz, hr⟩ := r.agg'
    refine .agg _ _ (by rw [hsz, hl]) (fun i b u hb hu => ?_)
    have hi : i < cs.length := by rw [← hsz]; exact (Array.getElem?_eq_some_iff.1 hu).1
    have ha : cs[i]? = some cs[i] := List.getElem?_eq_getElem hi
    exact ih i _ b ha hb (hr i _ u ha hu)
  | peekElt id n i j sz rows cs cs' e h hn hi hl h2 hD hne ih =>
    intro v r
    have hk := hHR.blk id
    rw [h] at hk
    obtain ⟨q1, q2, q3, q4, flat, q5, q6, q7⟩ := hk
    cases r with
    | dat r => cases r
    | elt _ _ _ _ _ p1 p2 p3 p4 p5 =>
      obtain ⟨g, c, e1, rfl⟩ := p5 (by rw [q4, hn])
      have q5' := q5
      rw [e1, hn] at q5'
      obtain ⟨g1, g2⟩ := q7 i cs hi
      have hil : i < rows.length := (List.getElem?_eq_some_iff.1 hi).1
      have key : ∀ (t : Nat) (b : AV), cs'[t]? = some b → ∃ u, flat[i * sz + t]? = some u ∧ RelV w (Gh.none w.heap.size) b u := by
        intro t b hb
        have ht : t < cs.length := by rw [hl]; exact (List.getElem?_eq_some_iff.1 hb).1
        have ha : cs[t]? = some cs[t] := List.getElem?_eq_getElem ht
        obtain ⟨u, g3, g4⟩ := g2 t _ ha
        exact ⟨u, g3, ih t _ b ha hb g4⟩
      rw [q3]
      refine .peek cs' j g (i * sz) (fun t => flat.getD (i * sz + t) undef) hne (fun h => h) (fun t b hb => ?_) (fun t b hb => ?_)
      · obtain ⟨u, g3, _⟩ := key t b hb
        have hlt : i * sz + t < rows.length * sz := by have := (List.getElem?_eq_some_iff.1 g3).1; rw [q5.1] at this; exact this
        rw [q5'.cellAt _ hlt, List.getD_eq_getElem?_getD, g3]; rfl
      · obtain ⟨u, g3, g4⟩ := key t b hb
        rw [List.getD_eq_getElem?_getD, g3]
        exact g4.isD (hD b (List.mem_of_getElem? hb))
  | fn f cs cs' hl h ih =>
    intro v r
    obtain ⟨us, rfl, hsz, hr⟩ := r.fn'
    refine .fn _ _ _ _ rfl (by rw [hsz, hl]) (fun i b u hb hu => ?_)
    have hi : i < cs.length := by rw [← hsz]; exact (Array.getElem?_eq_some_iff.1 hu).1
    have ha : cs[i]? = some cs[i] := List.getElem?_eq_getElem hi
    exact ih i _ b ha hb (hr i _ u ha hu)
  | peekBox id cs cs' e h hl h2 hD hne ih =>
    intro v r
    have hk := hHR.blk id
    rw [h] at hk
    obtain ⟨_, _, g, vs, e1, hh, hsz, hc⟩ := hk
    cases r with
    | dat r => cases r
    | box _ _ g' q1 q2 q3 =>
      rw [e1] at q3
      injection q3 with q3
      injection q3 with q3
      injection q3 with q3
      subst q3
      have key : ∀ (t : Nat) (b : AV), cs'[t]? = some b → ∃ u, vs[t]? = some u ∧ RelV w (Gh.none w.heap.size) b u := by
        intro t b hb
        have ht : t < cs.length := by rw [hl]; exact (List.getElem?_eq_some_iff.1 hb).1
        have ha : cs[t]? = some cs[t] := List.getElem?_eq_getElem ht
        obtain ⟨u, g1, _, g3⟩ := hc t _ ha
        exact ⟨u, g1, ih t _ b ha hb g3⟩
      refine .peek cs' 0 g 0 (fun t => vs.getD t undef) hne (fun h => h) (fun t b hb => ?_) (fun t b hb => ?_)
      · obtain ⟨u, g1, _⟩ := key t b hb
        rw [Nat.zero_add, Array.getD_eq_getD_getElem?, g1]
        rw [cell_of_cells hh g1]; rfl
      · obtain ⟨u, g1, g2⟩ := key t b hb
        rw [Array.getD_eq_getD_getElem?, g1]
        exact g2.isD (hD b (List.mem_of_getElem? hb))
  | peek cs cs' j hl h2 hD hne hDa ih =>
    intro v r
    cases r with
    | dat r => cases r
    | peek _ _ b o f hr hb h1 h3 =>
      have key : ∀ (t : Nat) (x : AV), cs'[t]? = some x → ∃ a, cs[t]? = some a ∧ RelV w (Gh.none w.heap.size) x (f t) := by
        intro t x hx
        have ht : t < cs.length := by rw [hl]; exact (List.getElem?_eq_some_iff.1 hx).1
        have ha : cs[t]? = some cs[t] := List.getElem?_eq_getElem ht
        exact ⟨_, ha, ih t _ x ha hx (.dat (h3 t _ ha))⟩
      refine .peek cs' j b o f hne (fun h => h) (fun t x hx => ?_) (fun t x hx => ?_)
      · obtain ⟨a, ha, _⟩ := key t x hx
        exact h1 t a ha
      · obtain ⟨a, _, g2⟩ := key t x hx
        exact g2.isD (hD x (List.mem_of_getElem? hx))
theorem FrzR.rel {w0 w : World} {G : Gh} {hp : List (Nat × AB)} (hHR : HR w0 w G hp) (hbs : ∀ b, G.own b → w0.heap.size ≤ b) {a b : AV} (h : FrzR hp a b) : ∀ {v : Value}, RelV w G a v → RelV w (Gh.frz w0.heap.size) b v := by
  induction h with
  | dat a h hf =>
    intro v r
    refine .dat ?_
    have r := r.isD h
    cases r with
    | any => exact .any _
    | und => exact .und
    | int => exact .int _ _
    | bool => exact .bool _
    | str => exact .str _
    | nilp => exact .nilp
    | nils => exact .nils
    | nilf => exact .nilf
    | ro fr sz rows => exact absurd rfl (hf fr sz rows)
  | ro sz rows hd hD ih =>
    intro v r
    refine .dat ?_
    have r := r.isD rfl
    cases r with
    | ro _ _ _ A c f hc hm h0 h1 h2 =>
      refine .ro true sz rows A c f hc hm h0 (fun i row j a g1 g2 => ?_) (fun i row j a g1 g2 => ?_)
      · obtain ⟨b, o, e1, e2, e3, e4⟩ := h1 i row j a g1 g2
        have e3 := e3 rfl
        rw [hHR.bs] at e3
        exact ⟨b, o, e1, (by intro hlt; have : b < w0.heap.size := hlt; omega), fun _ => e3, e4⟩
      · exact (ih row (List.mem_of_getElem? g1) a (List.mem_of_getElem? g2) (.dat (h2 i row j a g1 g2))).isD (hD row (List.mem_of_getElem? g1) a (List.mem_of_getElem? g2))
  | osl id n sz rows e h hn hd hD ih =>
    intro v r
    refine .dat (row_ro hHR h hn r rfl (fun i row row' j a' g1 g2 g3 => ?_) (fun b hb hlt => by have := hbs b hb; have : b < w0.heap.size := hlt; omega) (fun _ b hb => hbs b hb))
    rw [g1] at g2
    injection g2 with g2
    subst g2
    exact ⟨a', g3, fun u hu => (ih row (List.mem_of_getElem? g1) a' (List.mem_of_getElem? g3) hu).isD (hD row (List.mem_of_getElem? g1) a' (List.mem_of_getElem? g3))⟩
  | oslN id n sz rows rows' e h hn hl hll hd hD ih =>
    intro v r
    refine .dat (row_ro hHR h hn r hl (fun i row row' j a' g1 g2 g3 => ?_) (fun b hb hlt => by have := hbs b hb; have : b < w0.heap.size := hlt; omega) (fun _ b hb => hbs b hb))
    have hj : j < row.length := by rw [hll i row row' g1 g2]; exact (List.getElem?_eq_some_iff.1 g3).1
    have g4 : row[j]? = some row[j] := List.getElem?_eq_getElem hj
    exact ⟨_, g4, fun u hu => (ih i row row' j _ a' g1 g2 g4 g3 hu).isD (hD row' (List.mem_of_getElem? g2) a' (List.mem_of_getElem? g3))⟩
  | nilro sz =>
    intro v r
    have := r.nils'
    subst this
    exact .dat (.ro true sz [] none 0 (fun _ _ => undef) (Nat.le_refl _) (by simp [maxLen]) (fun i hi => by simp at hi) (fun i row j a g => by simp at g) (fun i row j a g => by simp at g))
  | agg cs cs' hl h ih =>
    intro v r
    obtain ⟨us, rfl, hsz, hr⟩ := r.agg'
    refine .agg _ _ (by rw [hsz, hl]) (fun i b u hb hu => ?_)
    have hi : i < cs.length := by rw [← hsz]; exact (Array.getElem?_eq_some_iff.1 hu).1
    have ha : cs[i]? = some cs[i] := List.getElem?_eq_getElem hi
    exact ih i _ b ha hb (hr i _ u ha hu)
  | tup cs cs' hl h ih =>
    intro v r
    obtain ⟨us, rfl, hsz, hr⟩ := r.tup'
    refine .tup _ _ (by rw [hsz, hl]) (fun i b u hb hu => ?_)
    have hi : i < cs.length := by rw [← hsz]; exact (Array.getElem?_eq_some_iff.1 hu).1
    have ha : cs[i]? = some cs[i] := List.getElem?_eq_getElem hi
    exact ih i _ b ha hb (hr i _ u ha hu)


/-- a contract: arguments that are data, a result that is data in new blocks; nothing else turns -/
structure AF (P : Program) (F : FuncId) (xs : List AV) (y : AV) : Prop where
  out : ∀ (w : World) (vs : Array Value), ArgsV w (Gh.none w.heap.size) xs vs → Calls P F vs w fun e w' => ∃ v, e = .returned v ∧ Below w.heap.size w w' ∧ RelV w' (Gh.frz w.heap.size) y v
theorem HR.start (w : World) : HR w w (Gh.none w.heap.size) [] :=
  ⟨rfl, Below.refl _ _, fun _ h => h.elim, fun _ => trivial, fun _ _ _ h => absurd h (Nat.not_lt_zero _), fun _ _ h => absurd h (Nat.not_lt_zero _)⟩
section
variable {P : Program} {F : FuncId} {xs : List AV} {y : AV}
theorem AF.of_AC (h : AC P F xs [] 0 (fun x hp _ => FrzR hp x y)) : AF P F xs y := .mk fun w vs ha =>
  (h w w (Gh.none w.heap.size) vs (HR.start w) rfl ha).mono fun _ _ ⟨v, _, _, _, _, he, hp, _, hHR, hRV, _⟩ => ⟨v, he, hHR.below, hp.rel hHR (fun b hb => (hHR.ownlt b hb).1) hRV⟩
/-- a contract used inside a walk -/
theorem AC.of_AF {xs' : List AV} {hp : List (Nat × AB)} {nx : Nat} {post : AV → List (Nat × AB) → Nat → Prop} (h : AF P F xs' y) (hl : xs.length = xs'.length) (hx : ∀ (i : Nat) (a b : AV), xs[i]? = some a → xs'[i]? = some b → FrzA hp a b) (hpost : post y hp nx) : AC P F xs hp nx post := fun w0 w G vs hHR hnx ha => by
  have ha' : ArgsV w (Gh.none w.heap.size) xs' vs := by
    refine ⟨by rw [ha.size, hl], fun i b v hb hv => ?_⟩
    have hi : i < xs.length := by rw [hl]; exact (List.getElem?_eq_some_iff.1 hb).1
    have hxi : xs[i]? = some xs[i] := List.getElem?_eq_getElem hi
    exact (hx i _ b hxi hb).rel hHR (ha.rel i _ v hxi hv)
  refine (h.out w vs ha').mono fun e w' ⟨v, he, hb, hr⟩ => ?_
  obtain ⟨h1, h2⟩ := hHR.same hb
  refine ⟨v, y, hp, nx, G, he, hpost, hnx, h1, ?_, h2⟩
  have key : ∀ {a : AV} {u : Value}, RelD w' (Gh.frz w.heap.size).own (Gh.frz w.heap.size).bs a u → RelD w' G.own G.bs a u := by
    intro a u hd
    induction hd with
    | ro fr sz rows A c f hc hm h0 h1' h2' ih =>
      refine .ro fr sz rows A c f hc hm h0 (fun i row j a g1 g2 => ?_) ih
      obtain ⟨b, o, e1, e2, e3, e4⟩ := h1' i row j a g1 g2
      have e2 : ¬ b < w.heap.size := e2
      refine ⟨b, o, e1, fun ho => e2 (hHR.ownlt b ho).2, fun _ => ?_, e4⟩
      rw [hHR.bs]
      have := hHR.below.size
      omega
    | any v => exact .any v
    | und => exact .und
    | int k n => exact .int k n
    | bool b => exact .bool b
    | str s => exact .str s
    | nilp => exact .nilp
    | nils => exact .nils
    | nilf => exact .nilf
  have key2 : ∀ {a : AV} {u : Value}, RelV w' (Gh.frz w.heap.size) a u → RelV w' G a u := by
    intro a u hd
    induction hd with
    | dat h => exact .dat (key h)
    | box id off g hid => exact absurd hid (Nat.not_lt_zero _)
    | elt id n i j v hid => exact absurd hid (Nat.not_lt_zero _)
    | osl id n v hid => exact absurd hid (Nat.not_lt_zero _)
    | peek row j b o f hr hb h1' h2' => exact .peek row j b o f hr (fun ho => hb (hHR.ownlt b ho).2) h1' (fun t a g => key (h2' t a g))
    | agg cs vs hl _ ih => exact .agg cs vs hl ih
    | tup cs vs hl _ ih => exact .tup cs vs hl ih
    | fn f cs fs vs hf hl _ ih => exact .fn f cs fs vs hf hl ih
  exact key2 hr
/-- old contracts: scalar results -/
theorem AF.of_calls {vs : Array Value} {v : Value} (hxs : ∀ w u, ArgsV w (Gh.none w.heap.size) xs u → u = vs) (hy : ∀ w, RelV w (Gh.frz 0) y v) (hy' : isD y = true) (hf : ∀ fr sz rows, y ≠ .ro fr sz rows) (h : ∀ w, Calls P F vs w fun e w' => e = .returned v ∧ Below w.heap.size w w') : AF P F xs y := .mk fun w u ha => by
  have := hxs w u ha
  subst this
  refine (h w).mono fun e w' ⟨he, hb⟩ => ⟨v, he, hb, ?_⟩
  refine .dat ?_
  have r := (hy w').isD hy'
  cases r with
  | any => exact .any _
  | und => exact .und
  | int => exact .int _ _
  | bool => exact .bool _
  | str => exact .str _
  | nilp => exact .nilp
  | nils => exact .nils
  | nilf => exact .nilf
  | ro fr sz rows => exact absurd rfl (hf fr sz rows)
end
end Go.Proofs.Ytnbmldnahacnlaa
