/- Partial states: some operations of a region have been done, in any order; blocks made in any order. No program in sight. -/
import Derived.Test.YtnbmldnahacnlaaSxU
namespace Go.Proofs.Ytnbmldnahacnlaa
open Go Go.RowKit

/-- the blocks that a value names -/
def AV.nmd (p : Nat → Bool) : AV → Bool
  | .box id _ | .elt id _ _ _ | .osl id _ => p id
  | .agg cs | .tup cs | .fn _ cs => go p cs
  | _ => true
where go (p : Nat → Bool) : List AV → Bool
  | [] => true
  | a :: l => a.nmd p && go p l
theorem nmd_at {p : Nat → Bool} : ∀ {cs : List AV} {i : Nat} {a : AV}, AV.nmd.go p cs = true → cs[i]? = some a → a.nmd p = true
  | [], i, a, _, h => by simp at h
  | b :: l, i, a, h0, h => by
    rw [AV.nmd.go, Bool.and_eq_true] at h0
    cases i with
    | zero => simp at h; subst h; exact h0.1
    | succ i => exact nmd_at h0.2 (by simpa using h)
theorem nmd_all {p : Nat → Bool} : ∀ {cs : List AV}, (∀ (i : Nat) (a : AV), cs[i]? = some a → a.nmd p = true) → AV.nmd.go p cs = true
  | [], _ => rfl
  | b :: l, h => by rw [AV.nmd.go, h 0 b rfl, nmd_all (cs := l) (fun i a hi => h (i + 1) a (by simpa using hi))]; rfl
theorem nmd_mono {p q : Nat → Bool} (hpq : ∀ i, p i = true → q i = true) : ∀ (a : AV), a.nmd p = true → a.nmd q = true
  | .box .., h => by simp only [AV.nmd] at h ⊢; exact hpq _ h
  | .elt .., h => by simp only [AV.nmd] at h ⊢; exact hpq _ h
  | .osl .., h => by simp only [AV.nmd] at h ⊢; exact hpq _ h
  | .agg cs, h => by
    simp only [AV.nmd] at h ⊢
    refine nmd_all fun i a hi => ?_
    have hm := List.mem_of_getElem? hi
    exact nmd_mono hpq a (nmd_at h hi)
  | .tup cs, h => by
    simp only [AV.nmd] at h ⊢
    refine nmd_all fun i a hi => ?_
    have hm := List.mem_of_getElem? hi
    exact nmd_mono hpq a (nmd_at h hi)
  | .fn f cs, h => by
    simp only [AV.nmd] at h ⊢
    refine nmd_all fun i a hi => ?_
    have hm := List.mem_of_getElem? hi
    exact nmd_mono hpq a (nmd_at h hi)
  | .any, _ => rfl
  | .und, _ => rfl
  | .int .., _ => rfl
  | .bool _, _ => rfl
  | .str _, _ => rfl
  | .nilp, _ => rfl
  | .nils, _ => rfl
  | .nilf, _ => rfl
  | .peek .., _ => rfl
  | .ro .., _ => rfl
termination_by a => SizeOf.sizeOf a
decreasing_by all_goals (have := List.sizeOf_lt_of_mem hm; simp; omega)
theorem RelV.nmd {w : World} {G : Gh} {a : AV} {v : Value} (r : RelV w G a v) : a.nmd (fun id => Nat.blt id G.nx) = true := by
  induction r with
  | dat h => cases h <;> rfl
  | box id off g hid => simp [AV.nmd]; exact hid
  | elt id n i j v hid => simp [AV.nmd]; exact hid
  | osl id n v hid => simp [AV.nmd]; exact hid
  | peek => rfl
  | agg cs vs hl _ ih =>
    simp only [AV.nmd]
    exact nmd_all fun i a hi => ih i a _ hi (Array.getElem?_eq_getElem (by rw [hl]; exact (List.getElem?_eq_some_iff.1 hi).1))
  | tup cs vs hl _ ih =>
    simp only [AV.nmd]
    exact nmd_all fun i a hi => ih i a _ hi (Array.getElem?_eq_getElem (by rw [hl]; exact (List.getElem?_eq_some_iff.1 hi).1))
  | fn f cs fs vs hf hl _ ih =>
    simp only [AV.nmd]
    exact nmd_all fun i a hi => ih i a _ hi (Array.getElem?_eq_getElem (by rw [hl]; exact (List.getElem?_eq_some_iff.1 hi).1))
/-- a turn that leaves alone what is not owned, and the blocks that p names -/
structure Mv (p : Nat → Bool) (w : World) (G : Gh) (w' : World) (G' : Gh) : Prop where
  keep : ∀ b, ¬ G.own b → b < w.heap.size → w'.heap[b]? = w.heap[b]?
  own2 : ∀ b, G'.own b → G.own b ∨ w.heap.size ≤ b
  bs : G'.bs = G.bs
  gh : ∀ id, p id = true → id < G.nx → id < G'.nx ∧ G'.ρ id = G.ρ id ∧ G'.ln id = G.ln id ∧ G'.sz id = G.sz id
theorem Mv.cell {p : Nat → Bool} {w w' : World} {G G' : Gh} (h : Mv p w G w' G') {a : Addr} {v : Value} (ho : ¬ G.own a.block) (hc : w.cell? a = some v) : w'.cell? a = some v :=
  (World.cell?_of_block (h.keep _ ho (cell_lt hc))).trans hc
theorem RelD.mv {p : Nat → Bool} {w w' : World} {G G' : Gh} (h : Mv p w G w' G') {a : AV} {v : Value} (r : RelD w G.own G.bs a v) : RelD w' G'.own G'.bs a v := by
  induction r with
  | any v => exact .any v
  | und => exact .und
  | int k n => exact .int k n
  | bool b => exact .bool b
  | str s => exact .str s
  | nilp => exact .nilp
  | nils => exact .nils
  | nilf => exact .nilf
  | ro fr sz rows A c f hc hm h0 h1 h2 ih =>
    refine .ro fr sz rows A c f hc hm h0 (fun i row j a g1 g2 => ?_) ih
    obtain ⟨b, o, e, ho, hfr, hcell⟩ := h1 i row j a g1 g2
    exact ⟨b, o, e, fun ho' => (h.own2 b ho').elim ho (fun hge => by have := cell_lt hcell; simp at this; omega), fun e => (by rw [h.bs]; exact hfr e), h.cell (a := ⟨b, _, none⟩) ho hcell⟩
theorem RelV.mv {p : Nat → Bool} {w w' : World} {G G' : Gh} (h : Mv p w G w' G') {a : AV} {v : Value} (r : RelV w G a v) (hp : a.nmd p = true) : RelV w' G' a v := by
  induction r with
  | dat r => exact .dat (r.mv h)
  | box id off g hid hs hr =>
    obtain ⟨a1, a2, a3, a4⟩ := h.gh id (by simpa only [AV.nmd] using hp) hid
    exact .box id off g a1 (a4 ▸ hs) (by rw [a2]; exact hr)
  | elt id n i j v hid hs hn hv hr =>
    obtain ⟨a1, a2, a3, a4⟩ := h.gh id (by simpa only [AV.nmd] using hp) hid
    refine .elt id n i j v a1 (by omega) (by omega) hv (fun e => ?_)
    obtain ⟨g, c, e1, e2⟩ := hr (by omega)
    exact ⟨g, c, by rw [a2]; exact e1, by rw [a4]; exact e2⟩
  | osl id n v hid hs hn hv hr =>
    obtain ⟨a1, a2, a3, a4⟩ := h.gh id (by simpa only [AV.nmd] using hp) hid
    exact .osl id n v a1 (by omega) (by omega) hv (fun e => by rw [a2]; exact hr (by omega))
  | peek row j b o f hr hb h1 h2 =>
    obtain ⟨x, l, rfl⟩ := List.exists_cons_of_ne_nil hr
    have hc := h1 0 x rfl
    exact .peek _ j b o f hr (fun ho' => (h.own2 b ho').elim hb (fun hge => by have := cell_lt hc; simp at this; omega)) (fun t a g => h.cell (a := ⟨b, _, none⟩) hb (h1 t a g)) (fun t a g => (h2 t a g).mv h)
  | agg cs vs hl _ ih => exact .agg cs vs hl fun i a v g1 g2 => ih i a v g1 g2 (nmd_at (by simpa only [AV.nmd] using hp) g1)
  | tup cs vs hl _ ih => exact .tup cs vs hl fun i a v g1 g2 => ih i a v g1 g2 (nmd_at (by simpa only [AV.nmd] using hp) g1)
  | fn f cs fs vs hf hl _ ih => exact .fn f cs fs vs hf hl fun i a v g1 g2 => ih i a v g1 g2 (nmd_at (by simpa only [AV.nmd] using hp) g1)
def AB.nmd (p : Nat → Bool) : AB → Bool
  | .dead => true
  | .box cs _ => AV.nmd.go p cs
  | .row _ rows _ => rows.all (AV.nmd.go p)
theorem ABok.nmd {w0 w : World} {G : Gh} {id : Nat} {b : AB} (h : ABok w0 w G id b) : b.nmd (fun id => Nat.blt id G.nx) = true := by
  cases b with
  | dead => rfl
  | box cs e =>
    obtain ⟨_, _, g, vs, _, _, _, h6⟩ := h
    refine nmd_all fun i a hi => ?_
    obtain ⟨v, _, _, g3⟩ := h6 i a hi
    exact g3.nmd
  | row sz rows e =>
    obtain ⟨_, _, _, _, flat, _, _, h7⟩ := h
    refine List.all_eq_true.2 fun row hr => nmd_all fun j a hj => ?_
    obtain ⟨i, hi⟩ := List.mem_iff_getElem?.1 hr
    obtain ⟨v, _, g4⟩ := (h7 i row hi).2 j a hj
    exact g4.nmd
theorem abnmd_mono {p q : Nat → Bool} (hpq : ∀ i, p i = true → q i = true) {b : AB} (h : b.nmd p = true) : b.nmd q = true := by
  cases b with
  | dead => rfl
  | box cs e => exact nmd_all fun i a hi => nmd_mono hpq a (nmd_at h hi)
  | row sz rows e => exact List.all_eq_true.2 fun row hr => nmd_all fun j a hj => nmd_mono hpq a (nmd_at (List.all_eq_true.1 h row hr) hj)
theorem ABok.mv {p : Nat → Bool} {w0 w w' : World} {G G' : Gh} {id : Nat} {b : AB} (h : ABok w0 w G id b) (hm : Mv p w G w' G') (hp : b.nmd p = true) (hid : b = .dead ∨ p id = true) (hc : ∀ g, ownBlk (G.ρ id) = some g → w'.heap[g]? = w.heap[g]?) : ABok w0 w' G' id b := by
  cases b with
  | dead => trivial
  | box cs e =>
    obtain ⟨h1, h2, g, vs, h3, h4, h5, h6⟩ := h
    obtain ⟨p1, p2, p3, p4⟩ := hm.gh id (hid.resolve_left (by simp)) h1
    refine ⟨p1, by rw [p4]; exact h2, g, vs, by rw [p2]; exact h3, (hc g (by rw [h3]; rfl)).trans h4, h5, fun i a hi => ?_⟩
    obtain ⟨v, g1, g2, g3⟩ := h6 i a hi
    exact ⟨v, g1, g2, g3.mv hm (nmd_at hp hi)⟩
  | row sz rows e =>
    obtain ⟨h1, h2, h3, h4, flat, h5, h6, h7⟩ := h
    obtain ⟨p1, p2, p3, p4⟩ := hm.gh id (hid.resolve_left (by simp)) h1
    refine ⟨p1, h2, by rw [p4]; exact h3, by rw [p3]; exact h4, flat, by rw [p2]; exact ownsRow_heap h5 hc, h6, fun i row hi => ?_⟩
    obtain ⟨g1, g2⟩ := h7 i row hi
    refine ⟨g1, fun j a hj => ?_⟩
    obtain ⟨v, g3, g4⟩ := g2 j a hj
    exact ⟨v, g3, g4.mv hm (nmd_at (List.all_eq_true.1 hp row (List.mem_of_getElem? hi)) hj)⟩

/-- a new block, as an operation leaves it -/
inductive NewB (w : World) (G : Gh) : AB → Value → World → Prop
  | box (cs : List AV) (vs : Array Value) (e : TypeId) (hc : CellsV w G cs vs) : NewB w G (.box cs e) (.pointer (some ⟨w.heap.size, 0, none⟩)) (w.alloc (.cells vs e))
  | row (w' : World) (v : Value) (sz : Nat) (rows : List (List AV)) (flat : List Value) (e : TypeId) (hb : Below w.heap.size w w') (hs : 0 < sz) (ho : w'.ownsRow w.heap.size e sz v rows.length flat) (hv : RowsV w G sz rows flat) : NewB w G (.row sz rows e) v w'
def refB (b : AB) (id : Nat) : AV := match b with
  | .box .. => .box id 0
  | .row _ rows _ => .osl id rows.length
  | .dead => .any
def Gh.at (G : Gh) (id0 : Nat) (v : Value) (ln sz : Nat) : Gh := ⟨fun id => if id = id0 then v else G.ρ id, fun b => G.own b ∨ ownBlk v = some b, fun id => if id = id0 then ln else G.ln id, fun id => if id = id0 then sz else G.sz id, G.nx, G.bs⟩
theorem NewB.below {w w' : World} {G : Gh} {b : AB} {v : Value} (h : NewB w G b v w') : Below w.heap.size w w' := by
  cases h with
  | box => exact below_alloc' _ _
  | row _ _ _ _ _ _ hb => exact hb
theorem NewB.fresh {w w' : World} {G : Gh} {b : AB} {v : Value} (h : NewB w G b v w') : ∀ g, ownBlk v = some g → w.heap.size ≤ g ∧ g < w'.heap.size := by
  intro g hg
  cases h with
  | box cs vs e hc => simp [ownBlk] at hg; simp; omega
  | row _ _ sz rows flat e hb hs ho hv =>
    rcases ho.2 with ⟨rfl, _⟩ | ⟨gg, cap, cur, rfl, hb', hh, _⟩
    · simp [ownBlk] at hg
    · simp [ownBlk] at hg
      subst hg
      exact ⟨hb', (Array.getElem?_eq_some_iff.1 hh).1⟩
def lnB : AB → Nat
  | .row _ rows _ => rows.length
  | _ => 0
def szB : AB → Nat
  | .row sz _ _ => sz
  | _ => 0

/-- some operations have been done; the blocks that lv names are there -/
structure RelP (K : Kn) (n : Nat) (R : Nat → AV) (hp : List (Nat × AB)) (nx0 : Nat) (lv : Nat → Bool) (a : Act) (w : World) (G : Gh) : Prop where
  nx : G.nx = nx0
  hr : HR K.w0 w G hp
  ext : Ext K.w1 K.G1 w G
  size : a.tmps.size = n
  defers : a.defers = []
  regs : ∀ t, RelV w G (R t) (a.tmps.getD t undef)
  rnm : ∀ t, (R t).nmd lv = true
  bnm : ∀ id, (look .dead hp id).nmd lv = true
  free : ∀ id, lv id = false → look .dead hp id = .dead ∧ (id < nx0 → G.ρ id = undef)
  old : ∀ id, id < K.G1.nx → lv id = true
section
variable {K : Kn} {n : Nat} {R : Nat → AV} {hp : List (Nat × AB)} {nx : Nat} {lv : Nat → Bool} {a : Act} {w : World} {G : Gh}
theorem RelP.rel (h : RelP K n R hp nx lv a w G) {st : ASt} (hr : ∀ t, look .any st.regs t = .any ∨ look .any st.regs t = R t) (hh : ∀ id, look .dead st.heap id = .dead ∨ look .dead st.heap id = look .dead hp id) (hn : st.nx = nx) : RelG K n st a w G := by
  refine ⟨h.nx.trans hn.symm, ⟨h.hr.bs, h.hr.below, h.hr.ownlt, fun id => ?_, h.hr.dist, h.hr.ownhas⟩, h.ext, h.size, h.defers, fun t => ?_⟩
  · rcases hh id with e | e
    · rw [e]; trivial
    · rw [e]; exact h.hr.blk id
  · rcases hr t with e | e
    · rw [e]; exact .dat (.any _)
    · rw [e]; exact h.regs t
theorem RelP.same (h : RelP K n R hp nx lv a w G) {w' : World} (hb : Below w.heap.size w w') : RelP K n R hp nx lv a w' G :=
  ⟨h.nx, (h.hr.same hb).1, h.ext.trans (h.hr.same hb).2, h.size, h.defers, fun t => (h.regs t).ext (h.hr.same hb).2, h.rnm, h.bnm, h.free, h.old⟩
def updR (R : Nat → AV) (d : Option Nat) (x : AV) : Nat → AV := match d with
  | some d => fun t => if d = t then x else R t
  | none => R
theorem RelP.put (h : RelP K n R hp nx lv a w G) {d : Option Nat} (hd : dok d n = true) {x : AV} {v : Value} (hv : RelV w G x v) (hx : x.nmd lv = true) : RelP K n (updR R d x) hp nx lv (a.put d v) w G := by
  cases d with
  | none => exact h
  | some d =>
    have hd := dok_lt hd d rfl
    refine ⟨h.nx, h.hr, h.ext, by simp [Act.put, h.size], h.defers, fun k => ?_, fun t => ?_, h.bnm, h.free, h.old⟩
    · show RelV w G (if d = k then x else R k) ((a.tmps.setIfInBounds d v).getD k undef)
      rw [getD_set (by rw [h.size]; exact hd)]
      split
      · exact hv
      · exact h.regs k
    · show (if d = t then x else R t).nmd lv = true
      split
      · exact hx
      · exact h.rnm t
theorem RelP.newAt (h : RelP K n R hp nx lv a w G) {id : Nat} (hid : lv id = false) (hlt : id < nx) {b : AB} {v : Value} {w' : World} (hN : NewB w G b v w') (hb : b.nmd lv = true) :
    RelP K n R ((id, b) :: hp) nx (fun i => lv i || Nat.beq i id) a w' (G.at id v (lnB b) (szB b)) ∧ RelV w' (G.at id v (lnB b) (szB b)) (refB b id) v := by
  have hbl := hN.below
  have hfr := hN.fresh
  obtain ⟨hdead, hund⟩ := h.free id hid
  have hund := hund hlt
  have hne : ∀ i, lv i = true → i ≠ id := fun i hi e => by subst e; rw [hid] at hi; cases hi
  have hmv : Mv lv w G w' (G.at id v (lnB b) (szB b)) := by
    refine ⟨fun bb _ hl => hbl.block bb hl, fun bb hb => ?_, rfl, fun i hi hin => ?_⟩
    · rcases hb with hb | hb
      · exact .inl hb
      · exact .inr (hfr bb hb).1
    · have := hne i hi
      exact ⟨hin, if_neg this, if_neg this, if_neg this⟩
  have e1 : (G.at id v (lnB b) (szB b)).ρ id = v := if_pos rfl
  have e2 : (G.at id v (lnB b) (szB b)).ln id = lnB b := if_pos rfl
  have e3 : (G.at id v (lnB b) (szB b)).sz id = szB b := if_pos rfl
  have e4 : id < (G.at id v (lnB b) (szB b)).nx := by show id < G.nx; rw [h.nx]; exact hlt
  have hlv : ∀ i, lv i = true → (lv i || Nat.beq i id) = true := fun i hi => by rw [hi]; rfl
  have hok : ABok K.w0 w' (G.at id v (lnB b) (szB b)) id b := by
    cases hN with
    | box cs vs e hc =>
      refine ⟨e4, e3, w.heap.size, vs, e1, heap_alloc_new w _, hc.size, fun i x hi => ?_⟩
      have hl : i < vs.size := by rw [hc.size]; exact (List.getElem?_eq_some_iff.1 hi).1
      have hvi : vs[i]? = some vs[i] := Array.getElem?_eq_getElem hl
      exact ⟨vs[i], hvi, hc.one i _ hvi, (hc.rel i x _ hi hvi).mv hmv (nmd_at hb hi)⟩
    | row _ _ sz rows flat e hbb hs ho hv =>
      refine ⟨e4, hs, e3, e2, flat, ?_, hv.one, fun i row hi => ?_⟩
      · rw [e1]
        refine ⟨ho.1, ?_⟩
        rcases ho.2 with h' | ⟨gg, cap, cur, h1, h2, h3⟩
        · exact .inl h'
        · exact .inr ⟨gg, cap, cur, h1, Nat.le_trans h.hr.below.size h2, h3⟩
      · obtain ⟨g1, g2⟩ := hv.rel i row hi
        refine ⟨g1, fun j x hj => ?_⟩
        obtain ⟨u, g3, g4⟩ := g2 j x hj
        exact ⟨u, g3, g4.mv hmv (nmd_at (List.all_eq_true.1 hb row (List.mem_of_getElem? hi)) hj)⟩
  refine ⟨⟨h.nx, ⟨h.hr.bs, h.hr.below.trans (hbl.mono h.hr.below.size), fun g hg => ?_, fun i => ?_, fun i i' g h1 h2 hii hg => ?_, fun i g h1 hg => ?_⟩, ?_, h.size, h.defers, fun t => (h.regs t).mv hmv (h.rnm t), fun t => nmd_mono hlv _ (h.rnm t), fun i => ?_, fun i hi => ?_, fun i hi => hlv i (h.old i hi)⟩, ?_⟩
  · rcases hg with hg | hg
    · have := h.hr.ownlt g hg
      have := hbl.size
      omega
    · have := hfr g hg
      have := h.hr.below.size
      omega
  · rw [look_cons]
    split
    · rename_i e; subst e; exact hok
    · rename_i e
      have hi : look AB.dead hp i = .dead ∨ lv i = true := by
        cases hl : lv i with
        | false => exact .inl (h.free i hl).1
        | true => exact .inr rfl
      by_cases hd : look AB.dead hp i = .dead
      · rw [hd]; trivial
      · refine (h.hr.blk i).mv hmv (h.bnm i) hi fun g hg => hbl.block g ?_
        have hin : i < G.nx := by
          have hk := h.hr.blk i
          cases hbk : look AB.dead hp i with
          | dead => exact absurd hbk hd
          | box cs e => rw [hbk] at hk; exact hk.1
          | row sz rows e => rw [hbk] at hk; exact hk.1
        exact (h.hr.ownlt g (h.hr.ownhas i g hin hg)).2
  · by_cases a1 : i = id
    · subst a1
      rw [e1] at hg
      have hi' : (G.at i v (lnB b) (szB b)).ρ i' = G.ρ i' := if_neg (fun e => hii e.symm)
      rw [hi']
      intro hg'
      have := (h.hr.ownlt g (h.hr.ownhas i' g h2 hg')).2
      have := (hfr g hg).1
      omega
    · have hi : (G.at id v (lnB b) (szB b)).ρ i = G.ρ i := if_neg a1
      rw [hi] at hg
      by_cases a2 : i' = id
      · subst a2
        rw [e1]
        intro hg'
        have := (h.hr.ownlt g (h.hr.ownhas i g h1 hg)).2
        have := (hfr g hg').1
        omega
      · have hi' : (G.at id v (lnB b) (szB b)).ρ i' = G.ρ i' := if_neg a2
        rw [hi']
        exact h.hr.dist i i' g h1 h2 hii hg
  · by_cases a1 : i = id
    · subst a1
      rw [e1] at hg
      exact .inr hg
    · have hi : (G.at id v (lnB b) (szB b)).ρ i = G.ρ i := if_neg a1
      rw [hi] at hg
      exact .inl (h.hr.ownhas i g h1 hg)
  · refine ⟨Nat.le_trans h.ext.size hbl.size, fun bb ho hl => ?_, fun bb hb => .inl (h.ext.own1 bb hb), fun bb hb => ?_, h.ext.nx, h.ext.bs, fun i hi => ?_⟩
    · rw [hbl.block bb (by have := h.ext.size; omega)]
      exact h.ext.keep bb ho hl
    · rcases hb with hb | hb
      · exact h.ext.own2 bb hb
      · have := (hfr bb hb).1
        have := h.ext.size
        right; omega
    · have := hne i (h.old i hi)
      have q1 : (G.at id v (lnB b) (szB b)).ρ i = G.ρ i := if_neg this
      have q2 : (G.at id v (lnB b) (szB b)).ln i = G.ln i := if_neg this
      have q3 : (G.at id v (lnB b) (szB b)).sz i = G.sz i := if_neg this
      rw [q1, q2, q3]
      exact h.ext.gh i hi
  · rw [look_cons]
    split
    · exact abnmd_mono hlv hb
    · exact abnmd_mono hlv (h.bnm i)
  · have hi' : lv i = false ∧ i ≠ id := by
      rw [Bool.or_eq_false_iff] at hi
      exact ⟨hi.1, fun e => by subst e; simp at hi⟩
    obtain ⟨f1, f2⟩ := h.free i hi'.1
    refine ⟨by rw [look_cons, if_neg (fun e => hi'.2 e.symm)]; exact f1, fun hl => ?_⟩
    show (if i = id then v else G.ρ i) = undef
    rw [if_neg hi'.2]
    exact f2 hl
  · cases hN with
    | box cs vs e hc => exact .box _ _ _ e4 e3 e1
    | row _ _ sz rows flat e hbb hs ho hv =>
      refine .osl _ _ _ e4 (by rw [e3]; exact hs) (by rw [e2]; exact Nat.le_refl _) ?_ (fun _ => e1.symm)
      rcases ho.2 with ⟨h1, h2⟩ | ⟨gg, cap, cur, h1, _⟩
      · rw [h1, h2]; exact ⟨_, _, rfl⟩
      · rw [h1]; exact ⟨_, _, rfl⟩
/-- numbers of blocks laid aside -/
theorem RelG.reserve {st : ASt} (r : RelG K n st a w G) (hw : K.w1.heap.size ≤ w.heap.size) (m : Nat) (hm : st.nx ≤ m) :
    ∃ G', RelP K n (fun t => look .any st.regs t) st.heap m (fun id => Nat.blt id st.nx) a w G' := by
  have _ := hw
  let G' : Gh := ⟨fun id => if id < G.nx then G.ρ id else undef, G.own, fun id => if id < G.nx then G.ln id else 0, fun id => if id < G.nx then G.sz id else 0, m, G.bs⟩
  have hnx := r.nx
  have hG : ∀ id, id < G.nx → G'.ρ id = G.ρ id ∧ G'.ln id = G.ln id ∧ G'.sz id = G.sz id := fun id h => ⟨if_pos h, if_pos h, if_pos h⟩
  have hx : Ext w G w G' := by
    refine ⟨Nat.le_refl _, fun _ _ _ => rfl, fun _ h => h, fun _ h => .inl h, by show G.nx ≤ m; omega, rfl, fun id hid => ?_⟩
    obtain ⟨q1, q2, q3⟩ := hG id hid
    exact ⟨by omega, by omega, fun _ => q1, fun _ => q2⟩
  have hu : ∀ id, ¬ id < G.nx → G'.ρ id = undef := fun id h => if_neg h
  refine ⟨G', rfl, ⟨r.hr.bs, r.hr.below, r.hr.ownlt, fun id => (r.hr.blk id).step hx (fun hid => ⟨(hG id hid).1, (hG id hid).2.1, fun _ _ => rfl⟩), fun i i' g _ _ hne hg => ?_, fun i g _ hg => ?_⟩, r.ext.trans hx, r.size, r.defers, fun t => (r.regs t).ext hx, fun t => ?_, fun id => ?_, fun id hid => ?_, fun id hid => ?_⟩
  · by_cases h1 : i < G.nx
    · by_cases h2 : i' < G.nx
      · rw [(hG i' h2).1]
        rw [(hG i h1).1] at hg
        exact r.hr.dist i i' g h1 h2 hne hg
      · rw [hu i' h2]
        simp [ownBlk, undef]
    · rw [hu i h1] at hg
      simp [ownBlk, undef] at hg
  · by_cases h1 : i < G.nx
    · rw [(hG i h1).1] at hg
      exact r.hr.ownhas i g h1 hg
    · rw [hu i h1] at hg
      simp [ownBlk, undef] at hg
  · have := (r.regs t).nmd
    rw [hnx] at this
    exact this
  · have := (r.hr.blk id).nmd
    rw [hnx] at this
    exact this
  · have hge : ¬ id < G.nx := by
      intro h
      have h2 : Nat.blt id st.nx = true := by simp; omega
      have hid : Nat.blt id st.nx = false := hid
      rw [h2] at hid
      cases hid
    refine ⟨?_, fun _ => hu id hge⟩
    have hk := r.hr.blk id
    cases hb : look AB.dead st.heap id with
    | dead => rfl
    | box cs e => rw [hb] at hk; exact absurd hk.1 hge
    | row sz rows e => rw [hb] at hk; exact absurd hk.1 hge
  · have := r.ext.nx
    show Nat.blt id st.nx = true
    simp
    omega
end
end Go.Proofs.Ytnbmldnahacnlaa
