/- Symbolic walks: stores, rows (make, index, append), literals. No program in sight. -/
import Derived.Test.YtnbmldnahacnlaaSx5
namespace Go.Proofs.Ytnbmldnahacnlaa
open Go Go.RowKit

def setR (cs : List AV) (off : Nat) : List AV → List AV
  | [] => cs
  | v :: l => setR (cs.set off v) (off + 1) l
theorem setR_length (l : List AV) : ∀ (cs : List AV) (off : Nat), (setR cs off l).length = cs.length := by
  induction l with
  | nil => intro cs off; rfl
  | cons v l ih => intro cs off; rw [setR, ih]; simp

structure RowsV (w : World) (G : Gh) (sz : Nat) (rows : List (List AV)) (flat : List Value) : Prop where
  len : flat.length = rows.length * sz
  one : ∀ v ∈ flat, v.oneCell' = true
  rel : ∀ (i : Nat) (row : List AV), rows[i]? = some row → row.length = sz ∧ ∀ (j : Nat) (a : AV), row[j]? = some a → ∃ v, flat[i * sz + j]? = some v ∧ RelV w G a v
theorem RowsV.ext {w w' : World} {G G' : Gh} {sz : Nat} {rows : List (List AV)} {flat : List Value} (h : RowsV w G sz rows flat) (hx : Ext w G w' G') : RowsV w' G' sz rows flat :=
  ⟨h.len, h.one, fun i row hi => ⟨(h.rel i row hi).1, fun j a hj => let ⟨v, h1, h2⟩ := (h.rel i row hi).2 j a hj; ⟨v, h1, h2.ext hx⟩⟩⟩
theorem RowsV.append {w : World} {G : Gh} {sz : Nat} {rows rows' : List (List AV)} {flat flat' : List Value} (h : RowsV w G sz rows flat) (h' : RowsV w G sz rows' flat') : RowsV w G sz (rows ++ rows') (flat ++ flat') := by
  refine ⟨by rw [List.length_append, h.len, h'.len, List.length_append, Nat.add_mul], fun v hv => ?_, fun i row hi => ?_⟩
  · rcases List.mem_append.1 hv with hv | hv
    · exact h.one v hv
    · exact h'.one v hv
  · by_cases hlt : i < rows.length
    · rw [List.getElem?_append_left hlt] at hi
      obtain ⟨h1, h2⟩ := h.rel i row hi
      refine ⟨h1, fun j a hj => ?_⟩
      obtain ⟨v, h3, h4⟩ := h2 j a hj
      exact ⟨v, by rw [List.getElem?_append_left (List.getElem?_eq_some_iff.1 h3).1]; exact h3, h4⟩
    · rw [List.getElem?_append_right (by omega)] at hi
      obtain ⟨h1, h2⟩ := h'.rel _ row hi
      refine ⟨h1, fun j a hj => ?_⟩
      obtain ⟨v, h3, h4⟩ := h2 j a hj
      have hle : rows.length * sz ≤ i * sz := Nat.mul_le_mul_right _ (by omega)
      refine ⟨v, ?_, h4⟩
      rw [List.getElem?_append_right (by rw [h.len]; omega), h.len, show i * sz + j - rows.length * sz = (i - rows.length) * sz + j by rw [Nat.sub_mul]; omega]
      exact h3
theorem RowsV.nil (w : World) (G : Gh) (sz : Nat) : RowsV w G sz [] [] := ⟨by simp, fun v hv => (by cases hv), fun i row hi => (by simp at hi)⟩
theorem flat_lt {i m j sz : Nat} (hi : i < m) (hj : j < sz) : i * sz + j < m * sz := by
  have : (i + 1) * sz ≤ m * sz := Nat.mul_le_mul_right _ hi
  rw [Nat.add_mul] at this
  omega
theorem flat_inj {i i' j j' sz : Nat} (hj : j < sz) (hj' : j' < sz) (h : i * sz + j = i' * sz + j') : i = i' ∧ j = j' := by
  rcases Nat.lt_trichotomy i i' with hlt | rfl | hlt
  · have := flat_lt (sz := sz) hlt hj; omega
  · exact ⟨rfl, by omega⟩
  · have := flat_lt (sz := sz) hlt hj'; omega
theorem RowsV.set {w : World} {G : Gh} {sz : Nat} {rows : List (List AV)} {flat : List Value} (h : RowsV w G sz rows flat) {i j : Nat} {row : List AV} (hi : rows[i]? = some row) (hj : j < sz) {x : AV} {u : Value} (hu : RelV w G x u) (h1 : u.oneCell' = true) :
    RowsV w G sz (rows.set i (row.set j x)) (flat.set (i * sz + j) u) := by
  have hil : i < rows.length := (List.getElem?_eq_some_iff.1 hi).1
  refine ⟨by simp [h.len], fun v hv => ?_, fun i' row' hi' => ?_⟩
  · rcases List.mem_or_eq_of_mem_set hv with hv | rfl
    · exact h.one v hv
    · exact h1
  · rw [List.getElem?_set] at hi'
    by_cases e : i = i'
    · subst e
      rw [if_pos rfl, if_pos hil] at hi'
      injection hi' with hi'
      subst hi'
      obtain ⟨g1, g2⟩ := h.rel i row hi
      refine ⟨by simp [g1], fun j' a hj' => ?_⟩
      rw [List.getElem?_set] at hj'
      by_cases e : j = j'
      · subst e
        rw [if_pos rfl, if_pos (by omega)] at hj'
        injection hj' with hj'
        subst hj'
        exact ⟨u, by rw [List.getElem?_set, if_pos rfl, if_pos (by rw [h.len]; exact flat_lt hil hj)], hu⟩
      · rw [if_neg e] at hj'
        obtain ⟨v, g3, g4⟩ := g2 j' a hj'
        exact ⟨v, by rw [List.getElem?_set, if_neg (by omega)]; exact g3, g4⟩
    · rw [if_neg e] at hi'
      obtain ⟨g1, g2⟩ := h.rel i' row' hi'
      refine ⟨g1, fun j' a hj' => ?_⟩
      obtain ⟨v, g3, g4⟩ := g2 j' a hj'
      have hjl : j' < sz := by rw [← g1]; exact (List.getElem?_eq_some_iff.1 hj').1
      exact ⟨v, by rw [List.getElem?_set, if_neg (fun e2 => e (flat_inj hj hjl e2).1)]; exact g3, g4⟩

theorem HR.congr {w0 w : World} {G : Gh} {hp hp' : List (Nat × AB)} (h : HR w0 w G hp) (he : ∀ id, look .dead hp' id = look .dead hp id) : HR w0 w G hp' :=
  ⟨h.bs, h.below, h.ownlt, fun id => by rw [he]; exact h.blk id, h.dist, h.ownhas⟩
section
variable {K : Kn} {n : Nat} {st : ASt} {a : Act} {w : World} {G : Gh}
theorem RelG.hcongr {hp : List (Nat × AB)} (r : RelG K n st a w G) (he : ∀ id, look .dead hp id = look .dead st.heap id) : RelG K n ⟨st.regs, hp, st.nx⟩ a w G := ⟨r.nx, r.hr.congr he, r.ext, r.size, r.defers, r.regs⟩
theorem RelG.hset2 {id : Nat} {b b' : AB} (r : RelG K n ((st.hset id b).hset id b') a w G) : RelG K n (st.hset id b') a w G :=
  r.hcongr (hp := (id, b') :: st.heap) (fun i => by
    show look AB.dead ((id, b') :: st.heap) i = look AB.dead ((id, b') :: (id, b) :: st.heap) i
    rw [look_cons, look_cons, look_cons]
    split <;> rfl)
theorem RelG.hself {id : Nat} {b : AB} (r : RelG K n st a w G) (hb : look .dead st.heap id = b) : RelG K n (st.hset id b) a w G :=
  r.hcongr (hp := (id, b) :: st.heap) (fun i => by
    rw [look_cons]
    split
    · rename_i e; subst e; exact hb.symm
    · rfl)
theorem Ext.setCell {b o : Nat} (hb : G.own b) (u : Value) : Ext w G (w.setCell ⟨b, o, none⟩ u) G :=
  ⟨by simp [World.setCell], fun b' ho _ => Below.heap_setCell _ _ _ _ (fun e => ho (e ▸ hb)), fun _ h => h, fun _ h => .inl h, Nat.le_refl _, rfl, fun _ _ => ⟨Nat.le_refl _, rfl, fun _ => rfl, fun _ => rfl⟩⟩
theorem RelG.owns (r : RelG K n st a w G) {id g : Nat} (hid : id < G.nx) (h : ownBlk (G.ρ id) = some g) : G.own g ∧ g < w.heap.size := ⟨r.hr.ownhas id g hid h, (r.hr.ownlt g (r.hr.ownhas id g hid h)).2⟩
/-- several cells of a box written -/
theorem RelG.storeBox {P : Program} {id g : Nat} {e : TypeId} (hid : id < G.nx) (hρ : G.ρ id = .pointer (some ⟨g, 0, none⟩)) : ∀ (xs : List AV) (vs : List Value) (i o : Nat) (cs : List AV) (w : World), RelG K n st a w G → look .dead st.heap id = .box cs e → o + i + vs.length ≤ cs.length → vs.length = xs.length →
    (∀ v ∈ vs, v.oneCell' = true) → (∀ (j : Nat) (x : AV) (v : Value), xs[j]? = some x → vs[j]? = some v → RelV w G x v) →
    ∃ w', (storeCells ⟨g, o, none⟩ vs i).run P w = .ok () w' ∧ RelG K n (st.hset id (.box (setR cs (o + i) xs) e)) a w' G := by
  intro xs
  induction xs generalizing st with
  | nil =>
    intro vs i o cs w r hb _ hl _ _
    have : vs = [] := List.eq_nil_of_length_eq_zero hl
    subst this
    exact ⟨w, rfl, r.hself hb⟩
  | cons x xs ih =>
    intro vs i o cs w r hb hle hl h1 hr
    obtain ⟨v, vs, rfl⟩ : ∃ v l, vs = v :: l := by match vs, hl with | v :: l, _ => exact ⟨v, l, rfl⟩
    have hv1 := h1 v (by simp)
    have hvr := hr 0 x v rfl rfl
    obtain ⟨hog, _⟩ := r.owns hid (by rw [hρ]; rfl)
    have r2 := r.setBox (off := o + i) hb hρ hvr hv1
    have hk := r.hr.blk id
    rw [hb] at hk
    obtain ⟨_, _, g', us, h3, h4, h5, _⟩ := hk
    rw [h3] at hρ
    injection hρ with hρ
    injection hρ with hρ
    injection hρ with hρ _ _
    subst hρ
    have hlt : o + i < us.size := by simp at hle; omega
    have hc : w.cell? ⟨g', o + i, none⟩ = some us[o + i] := by simp [World.cell?, h4, hlt]
    have hf := unfrozen_of_cells (i := o + i) h4
    have hst : (store ((⟨g', o, none⟩ : Addr).add i) v).run P w = .ok () (w.setCell ⟨g', o + i, none⟩ v) := by
      rw [addr_add, run_store P w _ v _ hv1, hc]
      simp [hf]
    obtain ⟨w', e1, r3⟩ := ih (st := st.hset id (.box (cs.set (o + i) x) e)) vs (i + 1) o (cs.set (o + i) x) _ r2 (look_self _ _ _ _) (by simp at hle ⊢; omega) (by simpa using hl) (fun u hu => h1 u (by simp [hu]))
      (fun j y u hy hu => (hr (j + 1) y u (by simpa using hy) (by simpa using hu)).ext (Ext.setCell hog v))
    refine ⟨w', ?_, ?_⟩
    · simp only [storeCells, Sem.run_bind, hst, Result.andThen_ok, e1]
    · have := r3.hset2
      rw [setR]
      exact this
end

section
variable {P : Program} {n : Nat} {st : ASt} {d : Option Nat} {ty : TypeId} {ps : String} {af : Array Edge} {g : Option (Nat × Bool)} {x y : Operand} {t t' : TypeId}
theorem run_storeVar' {z : Option Value} {s b : Nat} (hI : tyI P t = some (z, s, b)) {p : Addr} {v : Value} {w : World} (hs : v.cells.size = s) : (storeVar t p v).run P w = (storeCells p v.cells.toList).run P w := by
  simp [storeVar, run_sizeOf' hI, hs]
theorem op_store_box {z : Option Value} {s b : Nat} {id o : Nat} {cs vs : List AV} {e : TypeId} (hx : st.ev x = .box id o) (hb : look .dead st.heap id = .box cs e) (hy : (st.ev y).cells = vs) (h1 : allOne vs = true) (hI : tyI P t = some (z, s, b)) (hs : vs.length = s) (hle : o + s ≤ cs.length) :
    OpV P n ⟨none, .store t x y, ty, ps, af, g⟩ st (st.hset id (.box (setR cs o vs) e)) := .mk fun K a w ⟨G, r⟩ => by
  subst hy
  have e1 := r.ev x
  rw [hx] at e1
  have hcv := (r.ev y).cellsV h1
  obtain ⟨gg, us, e2, hρ, _, _, _⟩ := r.boxAt hb e1
  have hid : id < G.nx := by
    have hk := r.hr.blk id
    rw [hb] at hk
    exact hk.1
  obtain ⟨w', hrun, r2⟩ := RelG.storeBox (P := P) (e := e) hid hρ (st.ev y).cells (a.eval y).cells.toList 0 o cs w r hb (by have := hcv.size; simp; omega) (by simpa using hcv.size) (fun v hv => by
    obtain ⟨i, hi, hv⟩ := List.getElem_of_mem hv
    exact hcv.one i v (by rw [← hv]; simp)) (fun j x' v hx' hv => hcv.rel j x' v hx' (by simpa using hv))
  refine ⟨undef, w', .inr ⟨?_, rfl⟩, G, r2⟩
  simp [execOp, Instr.storeAt, e2, Instr.sureAddr, run_storeVar' hI (show (a.eval y).cells.size = s by rw [hcv.size, hs]), hrun]
theorem op_index_ro {e : TypeId} {z : Option Value} {sz b : Nat} {fr : Bool} {rows : List (List AV)} {row : List AV} {k : IntKind} {i : Int} (hx : st.ev x = .ro fr sz rows) (hy : st.ev y = .int k i) (hT : P.underlying t = some (.slice e)) (hI : tyI P e = some (z, sz, b)) (h0 : 0 ≤ i) (hr : rows[i.toNat]? = some row) (hne : row ≠ []) (hd : dok d n = true) :
    OpR P n ⟨d, .indexAddr t x y, ty, ps, af, g⟩ st (.peek row 0) :=
  .mk hd fun K a w G rr => by
    have e1 := rr.ev x
    rw [hx] at e1
    have e2 := rr.ev y
    rw [hy] at e2
    have e2 := e2.int'
    have hil : i.toNat < rows.length := (List.getElem?_eq_some_iff.1 hr).1
    generalize he : a.eval x = v at e1
    cases e1 with
    | dat h =>
      cases h with
      | ro _ _ _ A c f hc hm h0' h1 h2 =>
        obtain ⟨q, l, rfl⟩ := List.exists_cons_of_ne_nil hne
        obtain ⟨bb, oo, rfl, ho, _, _⟩ := h1 i.toNat _ 0 q hr rfl
        refine ⟨.pointer (some ⟨bb, oo + i.toNat * sz + 0, none⟩), ?_, .peek _ 0 bb (oo + i.toNat * sz) (fun j => f i.toNat j) (by simp) ho (fun j a hj => ?_) (fun j a hj => h2 i.toNat _ j a hr hj)⟩
        · have hlt : i < (rows.length : Int) := by omega
          simp [execOp, he, e2, Instr.indexAt, asIntOf, run_underlying hT, run_sizeOf' hI, h0, hlt, addr_add]
        · obtain ⟨b', o', e3, _, _, h4⟩ := h1 i.toNat _ j a hr hj
          injection e3 with e3
          injection e3 with e3 e4 _
          subst e3; subst e4
          exact h4
theorem op_index_osl {e e' : TypeId} {z : Option Value} {sz sz' b id m : Nat} {rows : List (List AV)} {k : IntKind} {i : Int} (hx : st.ev x = .osl id m) (hb : look .dead st.heap id = .row sz rows e') (hm : m = rows.length) (hy : st.ev y = .int k i) (hT : P.underlying t = some (.slice e)) (hI : tyI P e = some (z, sz', b)) (hsz : sz' = sz) (h0 : 0 ≤ i) (hlt : i < (m : Int)) (hd : dok d n = true) :
    OpR P n ⟨d, .indexAddr t x y, ty, ps, af, g⟩ st (.elt id m i.toNat 0) :=
  .mk hd fun K a w G rr => by
    subst hsz
    have e1 := rr.ev x
    rw [hx] at e1
    have e2 := rr.ev y
    rw [hy] at e2
    have e2 := e2.int'
    obtain ⟨gg, c, flat, q1, q2, q3, q4, q5, q6, q7, q8⟩ := rr.rowAt hb hm (by omega)
    generalize he : a.eval x = v at e1
    cases e1 with
    | dat h => cases h
    | osl _ _ _ hid hs hn hv h =>
      have e3 := h (by rw [q5, hm])
      rw [q1] at e3
      subst e3
      refine ⟨.pointer (some ⟨gg, 0 + i.toNat * sz', none⟩), ?_, .elt _ _ _ _ _ hid hs hn ⟨_, rfl⟩ fun _ => ⟨gg, c, by rw [q1, hm], by rw [q3]; simp⟩⟩
      intro w' _
      have hlt : i < (rows.length : Int) := by omega
      simp [execOp, he, e2, Instr.indexAt, asIntOf, run_underlying hT, run_sizeOf' hI, h0, hlt, addr_add]
/-- lengths -/
def AV.lenA : AV → Option Nat
  | .ro _ _ rows => some rows.length
  | .osl _ n => some n
  | .nils => some 0
  | _ => none
theorem RelV.lenA {w : World} {G : Gh} {a : AV} {v : Value} (h : RelV w G a v) {m : Nat} (hm : a.lenA = some m) : ∃ A c, v = .slice A m c := by
  cases h with
  | dat h =>
    cases h with
    | ro _ _ _ A c => simp [AV.lenA] at hm; subst hm; exact ⟨A, c, rfl⟩
    | nils => simp [AV.lenA] at hm; subst hm; exact ⟨_, _, rfl⟩
    | _ => simp [AV.lenA] at hm
  | osl _ _ _ _ _ _ hv => simp [AV.lenA] at hm; subst hm; exact hv
  | _ => simp [AV.lenA] at hm
theorem op_len {e : TypeId} {m : Nat} (hx : (st.ev x).lenA = some m) (hT : P.underlying t = some (.slice e)) (hd : dok d n = true) :
    OpR P n ⟨d, .call { callee := .builtin .len, args := #[x], argTypes := #[t] }, ty, ps, af, g⟩ st (.int .i64 m) :=
  .mk hd fun K a w G rr => by
    obtain ⟨A, c, e1⟩ := (rr.ev x).lenA hx
    refine ⟨_, ?_, rI _ _ _ _⟩
    intro w' _
    simp [execOp, resolve, invoke, builtin, e1, Builtin.len_, run_underlying hT, goInt]
theorem op_len_str {s : ByteArray} (hx : st.ev x = .str s) (hT : P.underlying t = some .string) (hd : dok d n = true) :
    OpR P n ⟨d, .call { callee := .builtin .len, args := #[x], argTypes := #[t] }, ty, ps, af, g⟩ st (.int .i64 s.size) :=
  .mk hd fun K a w G rr => by
    have e1 := rr.ev x
    rw [hx] at e1
    have e1 := e1.str'
    refine ⟨_, ?_, rI _ _ _ _⟩
    intro w' _
    simp [execOp, resolve, invoke, builtin, e1, Builtin.len_, run_underlying hT, goInt]
/-- a new row -/
theorem RelG.newRow {K : Kn} {a : Act} {w w' : World} {G : Gh} (r : RelG K n st a w G) (hb : Below w.heap.size w w') {v : Value} {sz : Nat} {rows : List (List AV)} {flat : List Value} {e : TypeId} (hs : 0 < sz) (ho : w'.ownsRow w.heap.size e sz v rows.length flat) (hv : RowsV w G sz rows flat) :
    RelG K n (st.hnew (.row sz rows e)) a w' (G.add v rows.length sz) ∧ RelV w' (G.add v rows.length sz) (.osl st.nx rows.length) v := by
  have hfr : ∀ g, ownBlk v = some g → w.heap.size ≤ g ∧ g < w'.heap.size := by
    intro g hg
    rcases ho.2 with ⟨rfl, _⟩ | ⟨gg, cap, cur, rfl, hb', hh, _⟩
    · simp [ownBlk] at hg
    · simp [ownBlk] at hg
      subst hg
      exact ⟨hb', (Array.getElem?_eq_some_iff.1 hh).1⟩
  have hx : Ext w G w' (G.add v rows.length sz) := Ext.add hb (fun g hg => (hfr g hg).1) _ _
  have hnx := r.nx
  have hvv : (G.add v rows.length sz).ρ st.nx = v := if_pos hnx.symm
  have hll : (G.add v rows.length sz).ln st.nx = rows.length := if_pos hnx.symm
  have hss : (G.add v rows.length sz).sz st.nx = sz := if_pos hnx.symm
  have hnn : st.nx < (G.add v rows.length sz).nx := by show st.nx < G.nx + 1; omega
  have ho' : w'.ownsRow K.w0.heap.size e sz v rows.length flat := by
    refine ⟨ho.1, ?_⟩
    rcases ho.2 with h | ⟨gg, cap, cur, h1, h2, h3⟩
    · exact .inl h
    · exact .inr ⟨gg, cap, cur, h1, Nat.le_trans r.hr.below.size h2, h3⟩
  refine ⟨r.new hb hfr ⟨hnn, hs, hss, hll, flat, by rw [hvv]; exact ho', hv.one, (hv.ext hx).rel⟩, .osl _ _ _ hnn (by rw [hss]; exact hs) (by rw [hll]; exact Nat.le_refl _) ?_ (fun _ => hvv.symm)⟩
  rcases ho.2 with ⟨h1, h2⟩ | ⟨gg, cap, cur, h1, _⟩
  · rw [h1, h2]; exact ⟨_, _, rfl⟩
  · rw [h1]; exact ⟨_, _, rfl⟩
theorem madeCells_rows {w : World} {G : Gh} {z : Value} {sz L : Nat} {zr : List AV} (hz : z.cells.toList.map avOf = zr) (hs : zr.length = sz) (h0 : 0 < sz) (h1 : allOne zr = true) : RowsV w G sz (List.replicate L zr) (madeCells z.cells (L * sz)).toList := by
  subst hz
  have hzs : z.cells.size = sz := by simpa using hs
  have hcv := cellsV_const w G h1
  refine ⟨by simp [size_madeCells], fun v hv => ?_, fun i row hi => ?_⟩
  · obtain ⟨i, hi, rfl⟩ := List.getElem_of_mem hv
    simp only [madeCells, Array.getElem_toList, Array.getElem_map]
    have hlt : (Array.range (L * sz))[i]'(by simpa [madeCells] using hi) % z.cells.size < z.cells.size := Nat.mod_lt _ (by omega)
    have key : ∀ k (hk : k < z.cells.size), z.cells[k]! = z.cells[k] := fun k hk => by simp [hk]
    rw [key _ hlt]
    exact hcv.one _ _ (Array.getElem?_eq_getElem hlt)
  · rw [List.getElem?_replicate] at hi
    split at hi
    · rename_i hiL
      injection hi with hi
      subst hi
      refine ⟨hs, fun j a hj => ?_⟩
      have hjs : j < sz := by rw [← hs]; exact (List.getElem?_eq_some_iff.1 hj).1
      have hlt : i * sz + j < L * sz := flat_lt hiL hjs
      have hmod : (i * sz + j) % z.cells.size = j := by rw [hzs, Nat.mul_comm, Nat.mul_add_mod]; exact Nat.mod_eq_of_lt hjs
      have hjz : j < z.cells.size := by omega
      refine ⟨z.cells[j], ?_, hcv.rel j a _ hj (Array.getElem?_eq_getElem hjz)⟩
      simp [madeCells, hlt, hmod, hjz]
    · cases hi
theorem op_make {e : TypeId} {z : Value} {sz b : Nat} {zr : List AV} {kl kc : IntKind} {L : Int} (hT : P.underlying t = some (.slice e)) (hI : tyI P e = some (some z, sz, b)) (hz : z.cells.toList.map avOf = zr) (hs : zr.length = sz) (hs0 : 0 < sz) (h1 : allOne zr = true) (hx : st.ev x = .int kl L) (hy : st.ev y = .int kc L)
    (h0 : 0 ≤ L) (hb : (b : Int) * L ≤ 281474976710656) (hm : L ≤ 9223372036854775807) (hd : dok d n = true) :
    OpV P n ⟨d, .makeSlice t x y, ty, ps, af, g⟩ st ((st.hnew (.row sz (List.replicate L.toNat zr) e)).put d (.osl st.nx L.toNat)) := .mk fun K a w ⟨G, r⟩ => by
  obtain ⟨e1, e2⟩ : a.eval x = .int kl L ∧ a.eval y = .int kc L := by
    have e1 := r.ev x
    have e2 := r.ev y
    rw [hx] at e1
    rw [hy] at e2
    exact ⟨e1.int', e2.int'⟩
  obtain ⟨i, hi, hz0, hz1, hz2⟩ := tyI_info hI
  have hr := run_make (P := P) w t e i z hT hi hz0 kl kc L L h0 (Int.le_refl _) (by rw [hz2]; exact hb) hm
  have ho := World.ownsRow_lit (base := w.heap.size) (e := e) (size := sz) w (madeCells z.cells (L.toNat * sz)) L.toNat (Nat.le_refl _) (by simp [maxLen]; omega) (size_madeCells _ _)
  rw [hz1] at hr
  have hlr : (List.replicate L.toNat zr).length = L.toNat := by simp
  obtain ⟨r2, hv⟩ := r.newRow (below_alloc' _ _) (rows := List.replicate L.toNat zr) (sz := sz) (e := e) hs0 (by rw [hlr]; exact ho) (madeCells_rows hz hs hs0 h1)
  rw [hlr] at hv r2
  exact ⟨_, _, .inl (by simp [execOp, e1, e2, hr]), _, r2.put (dok_lt hd) hv⟩
end
end Go.Proofs.Ytnbmldnahacnlaa
