/- Symbolic walks: the relation of an abstract state and a real one; control. No program in sight. -/
import Derived.Test.YtnbmldnahacnlaaSx1
namespace Go.Proofs.Ytnbmldnahacnlaa
open Go Go.RowKit

/-- what an abstract block says of memory -/
def ABok (w0 w : World) (G : Gh) (id : Nat) : AB → Prop
  | .dead => True
  | .box cs e => id < G.nx ∧ G.sz id = 0 ∧ ∃ (g : Nat) (vs : Array Value), G.ρ id = .pointer (some ⟨g, 0, none⟩) ∧ w.heap[g]? = some (.cells vs e (0, 0)) ∧ vs.size = cs.length ∧
      ∀ (i : Nat) (a : AV), cs[i]? = some a → ∃ v, vs[i]? = some v ∧ v.oneCell' = true ∧ RelV w G a v
  | .row sz rows e => id < G.nx ∧ 0 < sz ∧ G.sz id = sz ∧ G.ln id = rows.length ∧ ∃ flat : List Value, w.ownsRow w0.heap.size e sz (G.ρ id) rows.length flat ∧ (∀ v ∈ flat, v.oneCell' = true) ∧
      ∀ (i : Nat) (row : List AV), rows[i]? = some row → row.length = sz ∧ ∀ (j : Nat) (a : AV), row[j]? = some a → ∃ v, flat[i * sz + j]? = some v ∧ RelV w G a v

structure HR (w0 w : World) (G : Gh) (hp : List (Nat × AB)) : Prop where
  bs : G.bs = w0.heap.size
  below : Below w0.heap.size w0 w
  ownlt : ∀ b, G.own b → w0.heap.size ≤ b ∧ b < w.heap.size
  blk : ∀ id, ABok w0 w G id (look .dead hp id)
  dist : ∀ id id' g, id < G.nx → id' < G.nx → id ≠ id' → ownBlk (G.ρ id) = some g → ownBlk (G.ρ id') ≠ some g
  ownhas : ∀ id g, id < G.nx → ownBlk (G.ρ id) = some g → G.own g

/-- where a walk began: the world and the memory at the call, and the caller's -/
structure Kn where
  w0 : World
  w1 : World
  G1 : Gh

structure RelG (K : Kn) (n : Nat) (st : ASt) (a : Act) (w : World) (G : Gh) : Prop where
  nx : G.nx = st.nx
  hr : HR K.w0 w G st.heap
  ext : Ext K.w1 K.G1 w G
  size : a.tmps.size = n
  defers : a.defers = []
  regs : ∀ d, RelV w G (look .any st.regs d) (a.tmps.getD d undef)
def Rel (K : Kn) (n : Nat) (st : ASt) (a : Act) (w : World) : Prop := ∃ G, RelG K n st a w G

def Qs (K : Kn) (n : Nat) (Q : Exit → ASt → Prop) : Exit → Act → World → Prop := fun e a w => ∃ st, Q e st ∧ Rel K n st a w
structure AW (P : Program) (n : Nat) (c : Code) (Q : Exit → ASt → Prop) (st : ASt) : Prop where
  out : ∀ K a w, Rel K n st a w → c.wp P (Qs K n Q) a w
instance {P : Program} {n : Nat} {c : Code} {Q : Exit → ASt → Prop} {st : ASt} : CoeFun (AW P n c Q st) fun _ => ∀ K a w, Rel K n st a w → c.wp P (Qs K n Q) a w := ⟨AW.out⟩
structure AL (P : Program) (n : Nat) (ops : Array Oper) (Q : Exit → ASt → Prop) (l : List Oper) (st : ASt) : Prop where
  out : ∀ K a w, Rel K n st a w → wpList P ops (Qs K n Q) l a w
instance {P : Program} {n : Nat} {ops : Array Oper} {Q : Exit → ASt → Prop} {l : List Oper} {st : ASt} : CoeFun (AL P n ops Q l st) fun _ => ∀ K a w, Rel K n st a w → wpList P ops (Qs K n Q) l a w := ⟨AL.out⟩

theorem getD_set {vs : Array Value} {i j : Nat} {v : Value} (h : j < vs.size) : (vs.setIfInBounds j v).getD i undef = if j = i then v else vs.getD i undef := by
  simp only [Array.getD_eq_getD_getElem?, Array.getElem?_setIfInBounds]
  split
  · rename_i e; subst e; simp
  · rfl
theorem RelG.put {K : Kn} {n : Nat} {st : ASt} {a : Act} {w : World} {G : Gh} (h : RelG K n st a w G) {d : Option Nat} (hd : ∀ k, d = some k → k < n) {x : AV} {v : Value} (hv : RelV w G x v) : RelG K n (st.put d x) (a.put d v) w G := by
  cases d with
  | none => exact h
  | some d =>
    refine ⟨h.nx, h.hr, h.ext, by simp [Act.put, h.size], h.defers, fun k => ?_⟩
    have hd := hd d rfl
    show RelV w G (look .any ((d, x) :: st.regs) k) ((a.tmps.setIfInBounds d v).getD k undef)
    rw [look_cons, getD_set (by rw [h.size]; exact hd)]
    split
    · exact hv
    · exact h.regs k
theorem avOf_rel (w : World) (G : Gh) (v : Value) : RelV w G (avOf v) v := by
  refine .dat ?_
  unfold avOf
  split
  · exact .int _ _
  · exact .bool _
  · exact .str _
  · exact .nilp
  · exact .nils
  · exact .nilf
  · exact .any _
theorem RelG.ev {K : Kn} {n : Nat} {st : ASt} {a : Act} {w : World} {G : Gh} (h : RelG K n st a w G) (x : Operand) : RelV w G (st.ev x) (a.eval x) := by
  cases x with
  | tmp t => exact h.regs t
  | const v => exact avOf_rel w G v
  | global g => exact .dat (.any _)
  | func f => exact .fn f [] #[] #[] rfl rfl (fun i a v g => by simp at g)

/-! ### What an abstract value says of the real one -/
section
variable {w : World} {G : Gh} {v : Value}
theorem RelV.int' {k : IntKind} {n : Int} (h : RelV w G (.int k n) v) : v = .int k n := by cases h with | dat h => cases h; rfl
theorem RelV.bool' {b : Bool} (h : RelV w G (.bool b) v) : v = .bool b := by cases h with | dat h => cases h; rfl
theorem RelV.str' {s : ByteArray} (h : RelV w G (.str s) v) : v = .string s := by cases h with | dat h => cases h; rfl
theorem RelV.nilp' (h : RelV w G .nilp v) : v = .pointer none := by cases h with | dat h => cases h; rfl
theorem RelV.nils' (h : RelV w G .nils v) : v = .slice none 0 0 := by cases h with | dat h => cases h; rfl
theorem RelV.nilf' (h : RelV w G .nilf v) : v = .nilFunc := by cases h with | dat h => cases h; rfl
theorem RelV.und' (h : RelV w G .und v) : v = undef := by cases h with | dat h => cases h; rfl
end
theorem rI (w : World) (G : Gh) (k : IntKind) (n : Int) : RelV w G (.int k n) (.int k n) := .dat (.int k n)
theorem rB (w : World) (G : Gh) (b : Bool) : RelV w G (.bool b) (.bool b) := .dat (.bool b)

/-! ### Control -/
section
variable {P : Program} {n : Nat} {Q : Exit → ASt → Prop} {st : ASt}
def thenA (K : ASt → Prop) (Q : Exit → ASt → Prop) : Exit → ASt → Prop
  | .normal, st => K st
  | e, st => Q e st
theorem AW.seq {x y : Code} (h : AW P n x (thenA (AW P n y Q) Q) st) : AW P n (.seq x y) Q st := .mk fun K a w r =>
  wp_seq (wp_mono (h K a w r) fun e a' w' ⟨st', hq, hr⟩ => by
    cases e with
    | normal => exact AW.out hq K a' w' hr
    | exit id => exact ⟨st', hq, hr⟩
    | goto l => exact ⟨st', hq, hr⟩
    | ret => exact ⟨st', hq, hr⟩
    | panic c => exact ⟨st', hq, hr⟩
    | outgrown => exact ⟨st', hq, hr⟩)
def inBlockA (id : Nat) (Q : Exit → ASt → Prop) : Exit → ASt → Prop
  | .exit id', st => if id' = id then Q .normal st else Q (.exit id') st
  | e, st => Q e st
theorem AW.block {id : Nat} {c : Code} (h : AW P n c (inBlockA id Q) st) : AW P n (.block id c) Q st := .mk fun K a w r =>
  wp_block (wp_mono (h K a w r) fun e a' w' ⟨st', hq, hr⟩ => by
    cases e with
    | exit id' =>
      simp only [inBlockA] at hq
      simp only [Exit.inBlock]
      split
      · rename_i hid; rw [if_pos hid] at hq; exact ⟨st', hq, hr⟩
      · rename_i hid; rw [if_neg hid] at hq; exact ⟨st', hq, hr⟩
    | normal => exact ⟨st', hq, hr⟩
    | goto l => exact ⟨st', hq, hr⟩
    | ret => exact ⟨st', hq, hr⟩
    | panic c => exact ⟨st', hq, hr⟩
    | outgrown => exact ⟨st', hq, hr⟩)
theorem AW.skip (h : Q .normal st) : AW P n .skip Q st := .mk fun _ _ _ r => wp_skip ⟨st, h, r⟩
theorem AW.label {l : Nat} (h : Q .normal st) : AW P n (.label l) Q st := .mk fun _ _ _ r => wp_label ⟨st, h, r⟩
theorem AW.exit {id : Nat} (h : Q (.exit id) st) : AW P n (.exit id) Q st := .mk fun _ _ _ r => wp_exit ⟨st, h, r⟩
theorem AW.ret (h : Q .ret st) : AW P n .ret Q st := .mk fun _ _ _ r => wp_ret ⟨st, h, r⟩
theorem AW.cond {c : Operand} {x y : Code} {b : Bool} (hc : st.ev c = .bool b) (h1 : b = true → AW P n x Q st) (h2 : b = false → AW P n y Q st) : AW P n (.cond c x y) Q st := .mk fun K a w ⟨G, r⟩ => by
  have e := r.ev c
  rw [hc] at e
  exact wp_cond_split e.bool' (fun h => h1 h K a w ⟨G, r⟩) (fun h => h2 h K a w ⟨G, r⟩)
theorem AW.region {id : Nat} {l : List Oper} (h : AL P n l.toArray Q l st) : AW P n (.region id l.toArray false) Q st := .mk fun K a w r => wp_region_lit (h K a w r)
theorem AL.nil {ops : Array Oper} (h : Q .normal st) : AL P n ops Q [] st := .mk fun _ _ _ r => ⟨st, h, r⟩

/-- one operation: the value that it leaves, and the state behind it -/
structure OpV (P : Program) (n : Nat) (o : Oper) (st st' : ASt) : Prop where
  out : ∀ K a w, Rel K n st a w → ∃ v w', ((execOp a.eval o).run P w = .ok (.value v) w' ∨ ((execOp a.eval o).run P w = .ok .skip w' ∧ v = undef)) ∧ Rel K n st' (a.put o.dst v) w'
instance {P : Program} {n : Nat} {o : Oper} {st st' : ASt} : CoeFun (OpV P n o st st') fun _ => ∀ K a w, Rel K n st a w → ∃ v w', ((execOp a.eval o).run P w = .ok (.value v) w' ∨ ((execOp a.eval o).run P w = .ok .skip w' ∧ v = undef)) ∧ Rel K n st' (a.put o.dst v) w' := ⟨OpV.out⟩
theorem oper_of_run {P : Program} {o : Oper} {a : Act} {w w' : World} {v : Value} {next : Act → World → Prop} {Q : Exit → Act → World → Prop}
    (h : (execOp a.eval o).run P w = .ok (.value v) w' ∨ ((execOp a.eval o).run P w = .ok .skip w' ∧ v = undef)) (hn : next (a.put o.dst v) w') : o.wp P a w next Q := by
  unfold Oper.wp
  rcases h with h | ⟨h, hv⟩
  · rw [h]; exact hn
  · subst hv; rw [h]; exact hn
theorem AL.op {ops : Array Oper} {l : List Oper} {o : Oper} {st' : ASt} (hg : o.guard = none) (h : OpV P n o st st') (k : AL P n ops Q l st') : AL P n ops Q (o :: l) st := .mk fun K a w r =>
  wpList_plain hg fun K' hK' => by
    obtain ⟨v, w', hr, h2⟩ := h K a w r
    exact oper_of_run hr (hK' _ _ (k K _ _ h2))
def dok (d : Option Nat) (n : Nat) : Bool := match d with | some d => Nat.blt d n | none => true
theorem dok_lt {d : Option Nat} {n : Nat} (h : dok d n = true) : ∀ k, d = some k → k < n := by
  intro k e; subst e; simpa [dok] using h
/-- a guarded operation -/
def gdst (ops : Array Oper) (o : Oper) : Option (Nat × Bool) := match o.guard with | some (j, want) => ((ops[j]?).bind (·.dst)).map fun d => (d, want) | none => none
theorem yielded_of {ops : Array Oper} {K : Kn} {a : Act} {w : World} {G : Gh} (r : RelG K n st a w G) {j d : Nat} {b : Bool} (hj : (ops[j]?).bind (·.dst) = some d) (hb : look .any st.regs d = .bool b) : yielded ops a.tmps j = some b := by
  have e := r.regs d
  rw [hb] at e
  have e := e.bool'
  unfold yielded
  rw [hj]
  show (match a.tmps[d]? with | some (.bool b) => some b | _ => none) = some b
  rw [Array.getD_eq_getD_getElem?] at e
  cases h : a.tmps[d]? with
  | none => rw [h] at e; simp [undef] at e
  | some v => rw [h] at e; simp at e; subst e; rfl
theorem AL.opg {ops : Array Oper} {l : List Oper} {o : Oper} {st' : ASt} {d : Nat} {want : Bool} (hg : gdst ops o = some (d, want)) (hb : look .any st.regs d = .bool want) (h : OpV P n o st st') (k : AL P n ops Q l st') : AL P n ops Q (o :: l) st := .mk fun K a w r =>
  wpList_step fun K' hK' => by
    obtain ⟨G, rg⟩ := r
    have hw : Region.wanted o (yielded ops a.tmps) = true := by
      unfold gdst at hg
      unfold Region.wanted
      cases hgd : o.guard with
      | none => rfl
      | some p =>
        obtain ⟨j, wt⟩ := p
        rw [hgd] at hg
        obtain ⟨d', hd', e⟩ := Option.map_eq_some_iff.1 hg
        injection e with e1 e2
        subst e1; subst e2
        simp [yielded_of rg hd' hb]
    rw [if_pos hw]
    obtain ⟨v, w', hr, h2⟩ := h K a w ⟨G, rg⟩
    exact oper_of_run hr (hK' _ _ (k K _ _ h2))
theorem AL.skipg {ops : Array Oper} {l : List Oper} {o : Oper} {d : Nat} {want : Bool} (hg : gdst ops o = some (d, want)) (hd : dok o.dst n = true) (hb : look .any st.regs d = .bool (!want) ∨ look .any st.regs d = .und) (k : AL P n ops Q l (st.put o.dst .und)) : AL P n ops Q (o :: l) st := .mk fun K a w r =>
  wpList_step fun K' hK' => by
    obtain ⟨G, rg⟩ := r
    have hw : Region.wanted o (yielded ops a.tmps) = false := by
      unfold gdst at hg
      unfold Region.wanted
      cases hgd : o.guard with
      | none => rw [hgd] at hg; cases hg
      | some p =>
        obtain ⟨j, wt⟩ := p
        rw [hgd] at hg
        obtain ⟨d', hd', e⟩ := Option.map_eq_some_iff.1 hg
        injection e with e1 e2
        subst e1; subst e2
        rcases hb with hb | hb
        · simp [yielded_of rg hd' hb]
        · have e := rg.regs d'
          rw [hb] at e
          have e := e.und'
          have : yielded ops a.tmps j = none := by
            unfold yielded
            rw [hd']
            show (match a.tmps[d']? with | some (.bool b) => some b | _ => none) = none
            rw [Array.getD_eq_getD_getElem?] at e
            cases h : a.tmps[d']? with
            | none => rfl
            | some v => rw [h] at e; simp at e; subst e; rfl
          simp [this]
    rw [if_neg (by rw [hw]; decide)]
    exact hK' _ _ (k K _ _ ⟨G, rg.put (dok_lt hd) (.dat .und)⟩)

/-- less is known -/
def leR : List (Nat × AV) → ASt → Prop
  | [], _ => True
  | (d, v) :: l, st => look .any st.regs d = v ∧ leR l st
def leH : List (Nat × AB) → ASt → Prop
  | [], _ => True
  | (d, v) :: l, st => look .dead st.heap d = v ∧ leH l st
def AV.ids (m : Nat) : AV → Bool
  | .box id _ | .elt id _ _ _ | .osl id _ => Nat.blt id m
  | .agg cs | .tup cs | .fn _ cs => idsL m cs
  | _ => true
where idsL (m : Nat) : List AV → Bool
  | [] => true
  | a :: l => a.ids m && idsL m l
theorem idsL_at {m : Nat} : ∀ {cs : List AV} {i : Nat} {a : AV}, AV.ids.idsL m cs = true → cs[i]? = some a → a.ids m = true
  | [], i, a, _, h => by simp at h
  | b :: l, i, a, h0, h => by
    rw [AV.ids.idsL, Bool.and_eq_true] at h0
    cases i with
    | zero => simp at h; subst h; exact h0.1
    | succ i => exact idsL_at h0.2 (by simpa using h)
theorem RelV.shrink {w : World} {G : Gh} {m : Nat} {a : AV} {v : Value} (r : RelV w G a v) (h : a.ids m = true) : RelV w { G with nx := m } a v := by
  induction r with
  | dat r => exact .dat r
  | box id off g hid hs hr => exact .box id off g ((by simpa [AV.ids] using h)) hs hr
  | elt id n i j v hid hs hn hv hr => exact .elt id n i j v (by simpa [AV.ids] using h) hs hn hv hr
  | osl id n v hid hs hn hv hr => exact .osl id n v (by simpa [AV.ids] using h) hs hn hv hr
  | peek row j b o f hr hb h1 h2 => exact .peek row j b o f hr hb h1 h2
  | agg cs vs hl _ ih => exact .agg cs vs hl fun i a v g1 g2 => ih i a v g1 g2 (idsL_at (by simpa [AV.ids] using h) g1)
  | tup cs vs hl _ ih => exact .tup cs vs hl fun i a v g1 g2 => ih i a v g1 g2 (idsL_at (by simpa [AV.ids] using h) g1)
  | fn f cs fs vs hf hl _ ih => exact .fn f cs fs vs hf hl fun i a v g1 g2 => ih i a v g1 g2 (idsL_at (by simpa [AV.ids] using h) g1)
def AB.idsR (m : Nat) : AB → Prop
  | .dead => True
  | .box cs _ => AV.ids.idsL m cs = true
  | .row _ rows _ => ∀ row ∈ rows, ∀ a ∈ row, a.ids m = true
theorem look_mem {α : Type} {d : α} {l : List (Nat × α)} {i : Nat} {x : α} (h : look d l i = x) (hne : x ≠ d) : (i, x) ∈ l := by
  induction l with
  | nil => exact absurd h.symm hne
  | cons p l ih =>
    obtain ⟨j, v⟩ := p
    rw [look_cons] at h
    split at h
    · rename_i e; subst e; subst h; simp
    · exact List.mem_cons_of_mem _ (ih h)
theorem leR_at {st : ASt} {l : List (Nat × AV)} (h : leR l st) {p : Nat × AV} (hp : p ∈ l) : look .any st.regs p.1 = p.2 := by
  induction l with
  | nil => cases hp
  | cons q l ih =>
    rcases List.mem_cons.1 hp with rfl | hp
    · exact h.1
    · exact ih h.2 hp
theorem leH_at {st : ASt} {l : List (Nat × AB)} (h : leH l st) {p : Nat × AB} (hp : p ∈ l) : look .dead st.heap p.1 = p.2 := by
  induction l with
  | nil => cases hp
  | cons q l ih =>
    rcases List.mem_cons.1 hp with rfl | hp
    · exact h.1
    · exact ih h.2 hp
def idsRl (m : Nat) : List (Nat × AV) → Bool
  | [] => true
  | (_, a) :: l => a.ids m && idsRl m l
theorem idsRl_at {m : Nat} {l : List (Nat × AV)} (h : idsRl m l = true) {p : Nat × AV} (hp : p ∈ l) : p.2.ids m = true := by
  induction l with
  | nil => cases hp
  | cons q l ih =>
    obtain ⟨j, a⟩ := q
    rw [idsRl, Bool.and_eq_true] at h
    rcases List.mem_cons.1 hp with rfl | hp
    · exact h.1
    · exact ih h.2 hp
def idsHp (m : Nat) : List (Nat × AB) → Prop
  | [] => True
  | (i, b) :: l => (Nat.blt i m = true ∧ b.idsR m) ∧ idsHp m l
theorem idsHp_at {m : Nat} {l : List (Nat × AB)} (h : idsHp m l) {p : Nat × AB} (hp : p ∈ l) : p.1 < m ∧ p.2.idsR m := by
  induction l with
  | nil => cases hp
  | cons q l ih =>
    obtain ⟨j, a⟩ := q
    rcases List.mem_cons.1 hp with rfl | hp
    · exact ⟨by simpa using h.1.1, h.1.2⟩
    · exact ih h.2 hp
/-- what a state that says less must fulfil -/
structure Le (st st' : ASt) : Prop where
  regs : leR st'.regs st
  heap : leH st'.heap st
  nx : st'.nx ≤ st.nx
  idr : idsRl st'.nx st'.regs = true
  idh : idsHp st'.nx st'.heap
theorem RelG.weaken {K : Kn} {st st' : ASt} {a : Act} {w : World} {G : Gh} (r : RelG K n st a w G) (h : Le st st') (hK : K.G1.nx ≤ st'.nx) : RelG K n st' a w { G with nx := st'.nx } := by
  have hnx : st'.nx ≤ G.nx := by rw [r.nx]; exact h.nx
  refine ⟨rfl, ⟨r.hr.bs, r.hr.below, r.hr.ownlt, fun id => ?_, fun id id' g h1 h2 => r.hr.dist id id' g (by have := Nat.lt_of_lt_of_le h1 hnx; exact this) (Nat.lt_of_lt_of_le h2 hnx), fun id g h1 => r.hr.ownhas id g (Nat.lt_of_lt_of_le h1 hnx)⟩,
    ⟨r.ext.size, r.ext.keep, r.ext.own1, r.ext.own2, hK, r.ext.bs, r.ext.gh⟩, r.size, r.defers, fun d => ?_⟩
  · cases hb : look AB.dead st'.heap id with
    | dead => trivial
    | box cs e =>
      have hmem := look_mem hb (by simp)
      obtain ⟨hid, hids⟩ := idsHp_at h.idh hmem
      have hk := r.hr.blk id
      rw [leH_at h.heap hmem] at hk
      obtain ⟨_, h2, g, vs, h3, h4, h5, h6⟩ := hk
      refine ⟨hid, h2, g, vs, h3, h4, h5, fun i a hi => ?_⟩
      obtain ⟨v, g1, g2, g3⟩ := h6 i a hi
      exact ⟨v, g1, g2, g3.shrink (idsL_at hids hi)⟩
    | row sz rows e =>
      have hmem := look_mem hb (by simp)
      obtain ⟨hid, hids⟩ := idsHp_at h.idh hmem
      have hk := r.hr.blk id
      rw [leH_at h.heap hmem] at hk
      obtain ⟨_, h2, h3, h4, flat, h5, h6, h7⟩ := hk
      refine ⟨hid, h2, h3, h4, flat, h5, h6, fun i row hi => ?_⟩
      obtain ⟨g1, g2⟩ := h7 i row hi
      refine ⟨g1, fun j a hj => ?_⟩
      obtain ⟨v, g3, g4⟩ := g2 j a hj
      exact ⟨v, g3, g4.shrink (hids row (List.mem_of_getElem? hi) a (List.mem_of_getElem? hj))⟩
  · by_cases hd : look AV.any st'.regs d = .any
    · rw [hd]; exact .dat (.any _)
    · have hmem := look_mem (rfl : look AV.any st'.regs d = look AV.any st'.regs d) hd
      have := r.regs d
      rw [leR_at h.regs hmem] at this
      exact this.shrink (idsRl_at h.idr hmem)

theorem AW.loop {c : Code} {σ : Type} (I : σ → Prop) (A : σ → ASt) (μ : σ → Nat) (hnx : ∀ s, (A s).nx = st.nx) (s0 : σ) (h0 : I s0) (hle : Le st (A s0))
    (round : ∀ s, I s → AW P n c (thenA (fun st' => ∃ s', I s' ∧ μ s' < μ s ∧ Le st' (A s')) Q) (A s)) : AW P n (.loop c) Q st := .mk fun K a w ⟨G, r⟩ => by
  have hK : K.G1.nx ≤ st.nx := by rw [← r.nx]; exact r.ext.nx
  have key : ∀ (m : Nat) (s : σ) (a : Act) (w : World), μ s = m → I s → Rel K n (A s) a w → ∀ (b : Frame) (k : List Item) (cs : List Frame),
      ∃ e a' w', Qs K n Q e a' w' ∧ Arrives P (lone (b.at a (.code c :: .inLoop c :: k)) cs w) b k cs e a' w' := by
    intro m
    induction m using Nat.strongRecOn with
    | _ m ih =>
      intro s a w hm hI hr b k cs
      obtain ⟨e, a₁, w₁, ⟨st', hq, hr'⟩, harr⟩ := round s hI K a w hr b (.inLoop c :: k) cs
      cases e with
      | normal =>
        obtain ⟨s', hI', hlt, hle'⟩ := hq
        obtain ⟨G', r'⟩ := hr'
        have hr2 : Rel K n (A s') a₁ w₁ := ⟨_, r'.weaken hle' (by rw [hnx]; exact hK)⟩
        obtain ⟨e₂, a₂, w₂, hq₂, harr₂⟩ := ih (μ s') (hm ▸ hlt) s' a₁ w₁ rfl hI' hr2 b k cs
        exact ⟨e₂, a₂, w₂, hq₂, .of_steps (Steps.trans harr (.one step_inLoop)) harr₂⟩
      | exit id => exact ⟨_, a₁, w₁, ⟨st', hq, hr'⟩, .pass (x := .inLoop c) rfl (fun _ _ => .inl (by simp)) harr⟩
      | goto l => exact ⟨_, a₁, w₁, ⟨st', hq, hr'⟩, .pass (x := .inLoop c) rfl (fun _ _ => .inl (by simp)) harr⟩
      | ret => exact ⟨_, a₁, w₁, ⟨st', hq, hr'⟩, .pass (x := .inLoop c) rfl (fun _ _ => .inl (by simp)) harr⟩
      | panic ch => exact ⟨_, a₁, w₁, ⟨st', hq, hr'⟩, .pass (x := .inLoop c) rfl (fun _ _ => .inl (by simp)) harr⟩
      | outgrown => exact ⟨_, a₁, w₁, ⟨st', hq, hr'⟩, .pass (x := .inLoop c) rfl (fun _ _ => .inl (by simp)) harr⟩
  intro b k cs
  obtain ⟨e, a', w', hq, harr⟩ := key _ s0 a w rfl h0 ⟨_, r.weaken hle (by rw [hnx]; exact hK)⟩ b k cs
  exact ⟨e, a', w', hq, .of_steps (.one step_loop) harr⟩
/-- less is known from here on -/
theorem AW.weaken {c : Code} {st' : ASt} (hle : Le st st') (hn : st'.nx = st.nx) (h : AW P n c Q st') : AW P n c Q st := .mk fun K a w ⟨G, r⟩ =>
  h K a w ⟨_, r.weaken hle (by rw [hn, ← r.nx]; exact r.ext.nx)⟩
theorem thenA_n {K : ASt → Prop} (h : K st) : thenA K Q .normal st := h
theorem thenA_e {K : ASt → Prop} {e : Exit} (hne : e ≠ .normal) (h : Q e st) : thenA K Q e st := by cases e <;> first | exact h | exact absurd rfl hne
end
end Go.Proofs.Ytnbmldnahacnlaa
