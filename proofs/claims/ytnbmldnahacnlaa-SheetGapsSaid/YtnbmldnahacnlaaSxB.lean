/- Symbolic walks: elements written, structs and literals built, slices cut, structs compared; rows of encoded elements. No program in sight. -/
import Derived.Test.YtnbmldnahacnlaaSxA
namespace Go.Proofs.Ytnbmldnahacnlaa
open Go Go.RowKit

section
variable {P : Program} {n : Nat} {st : ASt} {d : Option Nat} {ty : TypeId} {ps : String} {af : Array Edge} {g : Option (Nat × Bool)} {x y : Operand} {t t' : TypeId}
theorem RelG.setElt {K : Kn} {a : Act} {w : World} {G : Gh} (r : RelG K n st a w G) {id sz i j gg c : Nat} {rows : List (List AV)} {e : TypeId} (hb : look .dead st.heap id = .row sz rows e) (hρ : G.ρ id = .slice (some ⟨gg, 0, none⟩) rows.length c) {row : List AV} (hi : rows[i]? = some row) (hj : j < sz) {xv : AV} {u : Value} (hu : RelV w G xv u) (h1 : u.oneCell' = true) :
    RelG K n (st.hset id (.row sz (rows.set i (row.set j xv)) e)) a (w.setCell ⟨gg, i * sz + j, none⟩ u) G := by
  have hk := r.hr.blk id
  rw [hb] at hk
  obtain ⟨q1, q2, q3, q4, flat, q5, q6, q7⟩ := hk
  have hog : G.own gg := r.hr.ownhas id gg q1 (by rw [hρ]; rfl)
  have hlt := r.hr.ownlt gg hog
  have hb0 : Below K.w0.heap.size w (w.setCell ⟨gg, i * sz + j, none⟩ u) := (Below.refl _ _).setCell hlt.1 u
  have hx : Ext w G (w.setCell ⟨gg, i * sz + j, none⟩ u) G := Ext.setCell hog u
  have hRV : RowsV w G sz rows flat := ⟨q5.1, q6, q7⟩
  have hRV2 := (hRV.set hi hj hu h1).ext hx
  have q5' := q5
  rw [hρ] at q5'
  have hst := (q5'.stored (i * sz + j) u).1
  rw [← hρ] at hst
  have hlr : (rows.set i (row.set j xv)).length = rows.length := by simp
  refine r.turn st.nx r.nx (r.hr.update hx hb0 id _ (fun id' hne hid' => ⟨rfl, rfl, fun g hg => Below.heap_setCell _ _ _ _ ?_⟩) (fun id' h _ => h) (fun b ho => ?_) ⟨q1, q2, q3, by rw [q4, hlr], flat.set (i * sz + j) u, by rw [hlr]; exact hst, hRV2.one, hRV2.rel⟩ (fun id' g hid' hne hg => ?_) (fun g _ hg => ?_)) hx
  · intro e1
    have e1 : g = gg := e1
    subst e1
    exact r.hr.dist id' id g hid' q1 hne hg (by rw [hρ]; rfl)
  · have := r.hr.ownlt b ho
    have := hb0.size
    omega
  · exact r.hr.dist id id' g q1 hid' (fun e => hne e.symm) hg
  · exact r.hr.ownhas id g q1 hg
theorem RelG.storeElt {K : Kn} {a : Act} {G : Gh} {id sz i gg c : Nat} {e : TypeId} (hρ : ∀ L, L = G.ln id → G.ρ id = .slice (some ⟨gg, 0, none⟩) L c) : ∀ (xs : List AV) (vs : List Value) (k o : Nat) (rows : List (List AV)) (row : List AV) (w : World) (st : ASt), RelG K n st a w G → look .dead st.heap id = .row sz rows e → rows[i]? = some row → o + k + vs.length ≤ sz → vs.length = xs.length →
    (∀ v ∈ vs, v.oneCell' = true) → (∀ (j : Nat) (x : AV) (v : Value), xs[j]? = some x → vs[j]? = some v → RelV w G x v) →
    ∃ w', (storeCells ⟨gg, i * sz + o, none⟩ vs k).run P w = .ok () w' ∧ RelG K n (st.hset id (.row sz (rows.set i (setR row (o + k) xs)) e)) a w' G := by
  intro xs
  induction xs with
  | nil =>
    intro vs k o rows row w st r hb hi _ hl _ _
    have : vs = [] := List.eq_nil_of_length_eq_zero hl
    subst this
    have : rows.set i row = rows := by
      apply List.ext_getElem?
      intro m
      rw [List.getElem?_set]
      split
      · rename_i e; subst e
        split
        · exact hi.symm
        · rename_i h; exact absurd (List.getElem?_eq_some_iff.1 hi).1 h
      · rfl
    rw [setR, this]
    exact ⟨w, rfl, r.hself hb⟩
  | cons x xs ih =>
    intro vs k o rows row w st r hb hi hle hl h1 hr
    obtain ⟨v, vs, rfl⟩ : ∃ v l, vs = v :: l := by match vs, hl with | v :: l, _ => exact ⟨v, l, rfl⟩
    have hv1 := h1 v (by simp)
    have hvr := hr 0 x v rfl rfl
    have hk := r.hr.blk id
    rw [hb] at hk
    obtain ⟨q1, q2, q3, q4, flat, q5, q6, q7⟩ := hk
    have hρ' := hρ rows.length q4.symm
    have hog : G.own gg := r.hr.ownhas id gg q1 (by rw [hρ']; rfl)
    have hjs : o + k < sz := by simp at hle; omega
    have r2 := r.setElt (j := o + k) hb hρ' hi hjs hvr hv1
    have hil : i < rows.length := (List.getElem?_eq_some_iff.1 hi).1
    have hfl : i * sz + (o + k) < rows.length * sz := flat_lt hil hjs
    have q5' := q5
    rw [hρ'] at q5'
    have hc := q5'.cellAt (i * sz + (o + k)) hfl
    have hfl' : i * sz + (o + k) < flat.length := by rw [q5.1]; exact hfl
    rw [List.getElem?_eq_getElem hfl'] at hc
    have hf := q5'.frozenAt (i * sz + (o + k))
    have hst : (store ((⟨gg, i * sz + o, none⟩ : Addr).add k) v).run P w = .ok () (w.setCell ⟨gg, i * sz + (o + k), none⟩ v) := by
      rw [addr_add, Nat.add_assoc, run_store P w _ v _ hv1, hc]
      simp [hf]
    obtain ⟨w', e1, r3⟩ := ih vs (k + 1) o (rows.set i (row.set (o + k) x)) (row.set (o + k) x) _ (st.hset id (.row sz (rows.set i (row.set (o + k) x)) e)) r2 (look_self _ _ _ _) (by rw [List.getElem?_set, if_pos rfl, if_pos hil]) (by simp at hle ⊢; omega) (by simpa using hl) (fun u hu => h1 u (by simp [hu]))
      (fun j y u hy hu => (hr (j + 1) y u (by simpa using hy) (by simpa using hu)).ext (Ext.setCell hog v))
    refine ⟨w', ?_, ?_⟩
    · simp only [storeCells, Sem.run_bind, hst, Result.andThen_ok, e1]
    · have := r3.hset2
      rw [List.set_set] at this
      rw [setR]
      exact this
theorem op_store_elt {z : Option Value} {s b : Nat} {id m i o sz : Nat} {rows : List (List AV)} {e : TypeId} {row vs : List AV} (hx : st.ev x = .elt id m i o) (hb : look .dead st.heap id = .row sz rows e) (hm : m = rows.length) (hr : rows[i]? = some row) (hy : (st.ev y).cells = vs) (h1 : allOne vs = true) (hI : tyI P t = some (z, s, b)) (hs : vs.length = s) (hle : o + s ≤ sz) :
    OpV P n ⟨none, .store t x y, ty, ps, af, g⟩ st (st.hset id (.row sz (rows.set i (setR row o vs)) e)) := .mk fun K a w ⟨G, r⟩ => by
  subst hy
  have e1 := r.ev x
  rw [hx] at e1
  have hcv := (r.ev y).cellsV h1
  obtain ⟨gg, c, flat, q1, q2, q3, q4, q5, q6, q7, q8⟩ := r.rowAt hb hm (by have := (List.getElem?_eq_some_iff.1 hr).1; omega)
  generalize he : a.eval x = u at e1
  cases e1 with
  | dat h => cases h
  | elt _ _ _ _ _ hid hs' hn hv' h =>
    obtain ⟨gg', c', e2, rfl⟩ := h (by rw [q5, hm])
    rw [q1] at e2
    injection e2 with e2 _ _
    injection e2 with e2
    injection e2 with e2 _ _
    subst e2
    rw [q3] at he
    obtain ⟨w', hrun, r2⟩ := RelG.storeElt (P := P) (K := K) (n := n) (a := a) (G := G) (id := id) (sz := sz) (i := i) (gg := gg) (c := c) (e := e) (fun L hL => by rw [q5] at hL; subst hL; exact q1) (st.ev y).cells (a.eval y).cells.toList 0 o rows row w st r hb hr (by have := hcv.size; simp; omega) (by simpa using hcv.size) (fun v hv => by
      obtain ⟨i, hi, hv⟩ := List.getElem_of_mem hv
      exact hcv.one i v (by rw [← hv]; simp)) (fun j x' v hx' hv => hcv.rel j x' v hx' (by simpa using hv))
    refine ⟨undef, w', .inr ⟨?_, rfl⟩, G, r2⟩
    simp [execOp, Instr.storeAt, he, Instr.sureAddr, run_storeVar' hI (show (a.eval y).cells.size = s by rw [hcv.size, hs]), hrun]

/-! literals -/
def fillA (place : Nat → Option (Nat × Nat)) (cells : List AV) : List (Nat × AV) → Option (List AV)
  | [] => some cells
  | (i, v) :: rest =>
    match place i with
    | none => none
    | some (off, size) => bif Nat.beq v.cells.length size && Nat.ble (off + v.cells.length) cells.length && allOne v.cells then fillA place (setR cells off v.cells) rest else none
theorem foldl_set {w : World} {G : Gh} : ∀ (us : List Value) (xs cs : List AV) (vs : Array Value) (off k : Nat), us.length = xs.length → CellsV w G cs vs → (∀ u ∈ us, u.oneCell' = true) → (∀ (j : Nat) (x : AV) (u : Value), xs[j]? = some x → us[j]? = some u → RelV w G x u) →
    CellsV w G (setR cs (off + k) xs) ((us.zipIdx k).foldl (fun cs (c, j) => cs.setIfInBounds (off + j) c) vs)
  | [], xs, cs, vs, off, k, hl, hc, _, _ => by
    have : xs = [] := List.eq_nil_of_length_eq_zero hl.symm
    subst this
    exact hc
  | u :: us, xs, cs, vs, off, k, hl, hc, h1, hr => by
    obtain ⟨x, xs, rfl⟩ : ∃ x l, xs = x :: l := by match xs, hl with | x :: l, _ => exact ⟨x, l, rfl⟩
    rw [setR, List.zipIdx_cons, List.foldl_cons]
    refine foldl_set us xs _ _ off (k + 1) (by simpa using hl) ⟨by simp [hc.size], fun i v hv => ?_, fun i a v ha hv => ?_⟩ (fun v hv => h1 v (by simp [hv])) (fun j y v hy hv => hr (j + 1) y v (by simpa using hy) (by simpa using hv))
    · rw [Array.getElem?_setIfInBounds] at hv
      split at hv
      · split at hv
        · injection hv with hv; subst hv; exact h1 u (by simp)
        · cases hv
      · exact hc.one i v hv
    · rw [List.getElem?_set] at ha
      rw [Array.getElem?_setIfInBounds] at hv
      by_cases e : off + k = i
      · subst e
        simp only [if_true] at ha hv
        split at ha
        · rename_i hlt
          rw [if_pos (by rw [hc.size]; exact hlt)] at hv
          injection ha with ha
          injection hv with hv
          subst ha; subst hv
          exact hr 0 x u rfl rfl
        · cases ha
      · rw [if_neg e] at ha hv
        exact hc.rel i a v ha hv
theorem fill_rel {w : World} {G : Gh} (place : Nat → Option (Nat × Nat)) : ∀ (ps : List (Nat × AV)) (us : List (Nat × Value)) (cs out : List AV) (vs : Array Value), us.length = ps.length → (∀ (j : Nat) (p : Nat × AV) (u : Nat × Value), ps[j]? = some p → us[j]? = some u → p.1 = u.1 ∧ RelV w G p.2 u.2) → CellsV w G cs vs → fillA place cs ps = some out →
    ∃ os, Instr.fill place vs us = some os ∧ CellsV w G out os
  | [], us, cs, out, vs, hl, _, hc, h => by
    have : us = [] := List.eq_nil_of_length_eq_zero hl
    subst this
    rw [fillA] at h
    injection h with h
    subst h
    exact ⟨vs, rfl, hc⟩
  | (i, v) :: ps, us, cs, out, vs, hl, hr, hc, h => by
    obtain ⟨⟨i', u⟩, us, rfl⟩ : ∃ u l, us = u :: l := by match us, hl with | u :: l, _ => exact ⟨u, l, rfl⟩
    obtain ⟨e1, e2⟩ := hr 0 _ _ rfl rfl
    simp only at e1 e2
    subst e1
    rw [fillA] at h
    cases hp : place i with
    | none => rw [hp] at h; cases h
    | some p =>
      obtain ⟨off, size⟩ := p
      rw [hp] at h
      simp only at h
      cases hb : (Nat.beq v.cells.length size && Nat.ble (off + v.cells.length) cs.length && allOne v.cells) with
      | false => rw [hb] at h; cases h
      | true =>
        rw [hb] at h
        simp only [Bool.and_eq_true] at hb
        obtain ⟨⟨b1, b2⟩, b3⟩ := hb
        have b1 := Nat.eq_of_beq_eq_true b1
        have b2 := Nat.le_of_ble_eq_true b2
        have hcv := e2.cellsV b3
        have hc2 := foldl_set u.cells.toList v.cells cs vs off 0 (by simpa using hcv.size) hc (fun x hx => by
          obtain ⟨k, hk, rfl⟩ := List.getElem_of_mem hx
          exact hcv.one k _ (by simp)) (fun j x u hx hu => hcv.rel j x u hx (by simpa using hu))
        obtain ⟨os, h3, h4⟩ := fill_rel place ps us _ out _ (by simpa using hl) (fun j p u hp hu => hr (j + 1) p u (by simpa using hp) (by simpa using hu)) hc2 h
        refine ⟨os, ?_, h4⟩
        rw [Instr.fill, hp]
        simp only
        rw [if_neg (by have := hcv.size; have := hc.size; simp; omega)]
        rw [← Array.foldl_toList]
        have ez : (u.cells.zipIdx).toList = u.cells.toList.zipIdx := by simp
        rw [ez]
        exact h3
end
end Go.Proofs.Ytnbmldnahacnlaa
