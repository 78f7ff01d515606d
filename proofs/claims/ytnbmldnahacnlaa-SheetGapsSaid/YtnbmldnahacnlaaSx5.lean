/- Symbolic walks: boxes: alloc, box, build, field, load, store. No program in sight. -/
import Derived.Test.YtnbmldnahacnlaaSx4
namespace Go.Proofs.Ytnbmldnahacnlaa
open Go Go.RowKit

def AV.one : AV → Bool
  | .any | .und | .agg _ | .tup _ => false
  | _ => true
theorem RelV.one {w : World} {G : Gh} {a : AV} {v : Value} (h : RelV w G a v) (h1 : a.one = true) : v.oneCell' = true := by
  cases h with
  | dat h => cases h <;> first | rfl | (simp [AV.one] at h1)
  | box => rfl
  | elt _ _ _ _ _ _ _ _ hv => obtain ⟨p, rfl⟩ := hv; rfl
  | osl _ _ _ _ _ _ hv => obtain ⟨A, c, rfl⟩ := hv; rfl
  | peek => rfl
  | agg => simp [AV.one] at h1
  | tup => simp [AV.one] at h1
  | fn => rfl
/-- the cells of a value -/
def AV.cells : AV → List AV
  | .agg cs => cs
  | a => [a]
def allOne : List AV → Bool
  | [] => true
  | a :: l => a.one && allOne l
theorem allOne_at {cs : List AV} (h : allOne cs = true) {i : Nat} {a : AV} (hi : cs[i]? = some a) : a.one = true := by
  induction cs generalizing i with
  | nil => simp at hi
  | cons b l ih =>
    rw [allOne, Bool.and_eq_true] at h
    cases i with
    | zero => simp at hi; subst hi; exact h.1
    | succ i => exact ih h.2 (by simpa using hi)
theorem one_cells {v : Value} (h : v.oneCell' = true) : v.cells = #[v] := by
  cases v <;> first | rfl | (simp [Value.oneCell'] at h)
theorem RelV.cellsV {w : World} {G : Gh} {x : AV} {v : Value} (h : RelV w G x v) (h1 : allOne x.cells = true) : CellsV w G x.cells v.cells := by
  have key : ∀ {x : AV}, x.cells = [x] → RelV w G x v → allOne x.cells = true → CellsV w G x.cells v.cells := by
    intro x hx h h1
    rw [hx] at h1 ⊢
    have h2 : x.one = true := by simpa [allOne] using h1
    rw [one_cells (h.one h2)]
    refine ⟨rfl, fun i u hu => ?_, fun i a u ha hu => ?_⟩
    · cases i with
      | zero => simp at hu; subst hu; exact h.one h2
      | succ i => simp at hu
    · cases i with
      | zero => simp at hu ha; subst hu; subst ha; exact h
      | succ i => simp at hu
  cases x with
  | agg cs =>
    obtain ⟨us, rfl, hl, hr⟩ := h.agg'
    refine ⟨hl, fun i u hu => ?_, hr⟩
    have hlt : i < cs.length := by rw [← hl]; exact (Array.getElem?_eq_some_iff.1 hu).1
    have ha : cs[i]? = some cs[i] := List.getElem?_eq_getElem hlt
    exact (hr i _ u ha hu).one (allOne_at h1 ha)
  | _ => exact key rfl h h1

def tyI (P : Program) (t : TypeId) : Option (Option Value × Nat × Nat) := (P.info? t).map fun i => (i.zero, i.size, i.bytes)
def aggB : TypeDesc → Bool
  | .struct _ | .array .. => true
  | _ => false
def fieldF (P : Program) (f : Field) : Option (Nat × Nat × Bool) := match P.info? f.type, P.underlying f.type with
  | some i, some D => some (f.offset, i.size, aggB D)
  | _, _ => none
/-- of each field of a struct: its offset, its size, whether it is a struct or an array -/
def fieldsP (P : Program) (t : TypeId) : Option (List (Nat × Nat × Bool)) :=
  match P.underlying t with
  | some (.struct fs) => fs.toList.mapM (fieldF P)
  | _ => none
section
variable {P : Program}
theorem tyI_info {t : TypeId} {z : Option Value} {s b : Nat} (h : tyI P t = some (z, s, b)) : ∃ i, P.info? t = some i ∧ i.zero = z ∧ i.size = s ∧ i.bytes = b := by
  obtain ⟨i, hi, e⟩ := Option.map_eq_some_iff.1 h
  simp only [Prod.mk.injEq] at e
  exact ⟨i, hi, e.1, e.2.1, e.2.2⟩
theorem run_sizeOf' {t : TypeId} {z : Option Value} {s b : Nat} (h : tyI P t = some (z, s, b)) (w : World) : (sizeOf t).run P w = .ok s w := by
  obtain ⟨i, hi, _, h2, _⟩ := tyI_info h
  simp [sizeOf, typeInfo, hi, h2]
theorem run_zeroValue' {t : TypeId} {z : Value} {s b : Nat} (h : tyI P t = some (some z, s, b)) (w : World) : (zeroValue t).run P w = .ok z w := by
  obtain ⟨i, hi, h1, _, _⟩ := tyI_info h
  simp [zeroValue, typeInfo, hi, h1]
theorem run_isAgg' {t : TypeId} {D : TypeDesc} (h : P.underlying t = some D) (w : World) : (isAgg t).run P w = .ok (aggB D) w := by
  simp only [isAgg, Sem.run_bind, run_underlying h, Result.andThen_ok]
  cases D <;> rfl
theorem fieldsP_at {t : TypeId} {fl : List (Nat × Nat × Bool)} (h : fieldsP P t = some fl) {f off s : Nat} {b : Bool} (hf : fl[f]? = some (off, s, b)) :
    ∃ fs fd i D, P.underlying t = some (.struct fs) ∧ fs[f]? = some fd ∧ P.info? fd.type = some i ∧ P.underlying fd.type = some D ∧ fd.offset = off ∧ i.size = s ∧ aggB D = b := by
  unfold fieldsP at h
  split at h
  · rename_i fs hfs
    refine ⟨fs, ?_⟩
    have key : ∀ (l : List Field) (fl : List (Nat × Nat × Bool)) (f : Nat), (l.mapM (fieldF P)) = some fl → fl[f]? = some (off, s, b) → ∃ fd i D, l[f]? = some fd ∧ P.info? fd.type = some i ∧ P.underlying fd.type = some D ∧ fd.offset = off ∧ i.size = s ∧ aggB D = b := by
      intro l
      induction l with
      | nil => intro fl f h hf; simp at h; subst h; simp at hf
      | cons x l ih =>
        intro fl f h hf
        rw [List.mapM_cons] at h
        cases hi : P.info? x.type with
        | none => simp [fieldF, hi] at h
        | some i =>
          cases hD : P.underlying x.type with
          | none => simp [fieldF, hi, hD] at h
          | some D =>
            simp only [fieldF, hi, hD] at h
            cases hr : (l.mapM (fieldF P)) with
            | none => rw [hr] at h; simp at h
            | some r =>
              rw [hr] at h
              simp at h
              subst h
              cases f with
              | zero =>
                simp at hf
                exact ⟨x, i, D, rfl, hi, hD, hf.1, hf.2.1, hf.2.2⟩
              | succ f =>
                obtain ⟨fd, i', D', h1, h2⟩ := ih r f hr (by simpa using hf)
                exact ⟨fd, i', D', by simpa using h1, h2⟩
    obtain ⟨fd, i, D, h1, h2⟩ := key fs.toList fl f h hf
    exact ⟨fd, i, D, hfs, by simpa using h1, h2⟩
  · cases h
end

section
variable {P : Program} {n : Nat} {st : ASt} {d : Option Nat} {ty : TypeId} {ps : String} {af : Array Edge} {g : Option (Nat × Bool)} {x y : Operand} {t t' : TypeId}
theorem cellsV_const (w : World) (G : Gh) {vs : Array Value} (h : allOne (vs.toList.map avOf) = true) : CellsV w G (vs.toList.map avOf) vs := by
  have hr : ∀ (i : Nat) (a : AV) (v : Value), (vs.toList.map avOf)[i]? = some a → vs[i]? = some v → a = avOf v := by
    intro i a v ha hv
    rw [List.getElem?_map, Array.getElem?_toList, hv] at ha
    simpa using ha.symm
  refine ⟨by simp, fun i v hv => ?_, fun i a v ha hv => by rw [hr i a v ha hv]; exact avOf_rel w G v⟩
  have ha : (vs.toList.map avOf)[i]? = some (avOf v) := by rw [List.getElem?_map, Array.getElem?_toList, hv]; rfl
  exact (avOf_rel w G v).one (allOne_at h ha)
theorem op_alloc {e : TypeId} {z : Value} {s b : Nat} {cs : List AV} (hz : tyI P e = some (some z, s, b)) (hcs : z.cells.toList.map avOf = cs) (h1 : allOne cs = true) (hd : dok d n = true) :
    OpV P n ⟨d, .alloc e, ty, ps, af, g⟩ st ((st.hnew (.box cs e)).put d (.box st.nx 0)) := .mk fun K a w ⟨G, r⟩ => by
  subst hcs
  obtain ⟨r2, hv⟩ := r.newBox (cellsV_const w G h1) e
  refine ⟨_, _, .inl ?_, _, r2.put (dok_lt hd) hv⟩
  simp [execOp, Instr.alloc, run_zeroValue' hz, newVar, newRow]
theorem op_box {e : TypeId} {c : List AV} (hc : (st.ev x).cells = c) (h1 : allOne c = true) (hd : dok d n = true) :
    OpV P n ⟨d, .box e x, ty, ps, af, g⟩ st ((st.hnew (.box c e)).put d (.box st.nx 0)) := .mk fun K a w ⟨G, r⟩ => by
  subst hc
  obtain ⟨r2, hv⟩ := r.newBox ((r.ev x).cellsV h1) e
  refine ⟨_, _, .inl ?_, _, r2.put (dok_lt hd) hv⟩
  simp [execOp, Instr.box, newVar, newRow]

/-- fields' addresses -/
theorem run_fieldAt {fl : List (Nat × Nat × Bool)} {f off s : Nat} {b : Bool} (hF : fieldsP P t = some fl) (hf : fl[f]? = some (off, s, b)) (hs : s ≠ 0) (p : Addr) (w : World) : (Instr.fieldAt t (.pointer (some p)) f).run P w = .ok (.pointer (some (p.add off))) w := by
  obtain ⟨fs, fd, i, D, h1, h2, h3, _, h4, h5, _⟩ := fieldsP_at hF hf
  have hs' : (sizeOf fd.type).run P w = .ok s w := by simp [sizeOf, typeInfo, h3, h5]
  simp [Instr.fieldAt, run_underlying h1, h2, Instr.sureAddr, fieldPlace, hs', hs, h4]
theorem addr_add (b o k : Nat) : (⟨b, o, none⟩ : Addr).add k = ⟨b, o + k, none⟩ := by unfold Addr.add; split <;> simp_all
theorem op_fieldAddr_box {fl : List (Nat × Nat × Bool)} {f off s : Nat} {b : Bool} {id o : Nat} (hx : st.ev x = .box id o) (hF : fieldsP P t = some fl) (hf : fl[f]? = some (off, s, b)) (hs : s ≠ 0) (hd : dok d n = true) :
    OpR P n ⟨d, .fieldAddr t x f, ty, ps, af, g⟩ st (.box id (o + off)) :=
  .mk hd fun K a w G rr => by
    have e1 := rr.ev x
    rw [hx] at e1
    generalize he : a.eval x = v at e1
    cases e1 with
    | dat h => cases h
    | box _ _ gg hid hs' h =>
      refine ⟨.pointer (some ⟨gg, o + off, none⟩), ?_, .box _ _ _ hid hs' h⟩
      intro w' _
      simp [execOp, he, run_fieldAt hF hf hs, addr_add]
theorem op_nilCheck_box {id o : Nat} (hx : st.ev x = .box id o) (hd : dok d n = true) : OpR P n ⟨d, .nilCheck x, ty, ps, af, g⟩ st (.box id o) :=
  .mk hd fun K a w G rr => by
    have e1 := rr.ev x
    rw [hx] at e1
    generalize he : a.eval x = v at e1
    cases e1 with
    | dat h => cases h
    | box _ _ gg hid hs' h =>
      refine ⟨.pointer (some ⟨gg, o, none⟩), ?_, .box _ _ _ hid hs' h⟩
      intro w' _
      simp [execOp, he]
theorem op_nilCheck_peek {row : List AV} {o : Nat} (hx : st.ev x = .peek row o) (hd : dok d n = true) : OpR P n ⟨d, .nilCheck x, ty, ps, af, g⟩ st (.peek row o) :=
  .mk hd fun K a w G rr => by
    have e1 := rr.ev x
    rw [hx] at e1
    generalize he : a.eval x = v at e1
    cases e1 with
    | dat h => cases h
    | peek _ _ b o' f hr hb h1 h2 =>
      refine ⟨.pointer (some ⟨b, o' + o, none⟩), ?_, .peek _ _ _ _ f hr hb h1 h2⟩
      intro w' _
      simp [execOp, he]
theorem op_nilCheck_elt {id m i o : Nat} (hx : st.ev x = .elt id m i o) (hd : dok d n = true) : OpR P n ⟨d, .nilCheck x, ty, ps, af, g⟩ st (.elt id m i o) :=
  .mk hd fun K a w G rr => by
    have e1 := rr.ev x
    rw [hx] at e1
    generalize he : a.eval x = v at e1
    cases e1 with
    | dat h => cases h
    | elt _ _ _ _ _ h1 h2 h3 h4 h5 =>
      obtain ⟨p, rfl⟩ := h4
      refine ⟨.pointer (some p), ?_, .elt _ _ _ _ _ h1 h2 h3 ⟨p, rfl⟩ h5⟩
      intro w' _
      simp [execOp, he]
theorem op_fieldAddr_peek {fl : List (Nat × Nat × Bool)} {f off s : Nat} {b : Bool} {row : List AV} {o : Nat} (hx : st.ev x = .peek row o) (hF : fieldsP P t = some fl) (hf : fl[f]? = some (off, s, b)) (hs : s ≠ 0) (hd : dok d n = true) :
    OpR P n ⟨d, .fieldAddr t x f, ty, ps, af, g⟩ st (.peek row (o + off)) :=
  .mk hd fun K a w G rr => by
    have e1 := rr.ev x
    rw [hx] at e1
    generalize he : a.eval x = v at e1
    cases e1 with
    | dat h => cases h
    | peek _ _ bb oo ff hr hb h1 h2 =>
      refine ⟨.pointer (some ⟨bb, oo + (o + off), none⟩), ?_, .peek row (o + off) bb oo ff hr hb h1 h2⟩
      intro w' _
      simp [execOp, he, run_fieldAt hF hf hs, addr_add, Nat.add_assoc]
theorem op_fieldAddr_elt {fl : List (Nat × Nat × Bool)} {f off s : Nat} {b : Bool} {id m i o : Nat} (hx : st.ev x = .elt id m i o) (hF : fieldsP P t = some fl) (hf : fl[f]? = some (off, s, b)) (hs : s ≠ 0) (hm : (∃ sz rows e, look .dead st.heap id = .row sz rows e ∧ m = rows.length)) (hd : dok d n = true) :
    OpR P n ⟨d, .fieldAddr t x f, ty, ps, af, g⟩ st (.elt id m i (o + off)) :=
  .mk hd fun K a w G rr => by
    have e1 := rr.ev x
    rw [hx] at e1
    generalize he : a.eval x = v at e1
    obtain ⟨sz, rows, e, hb, hm⟩ := hm
    have hk := rr.hr.blk id
    rw [hb] at hk
    cases e1 with
    | dat h => cases h
    | elt _ _ _ _ _ hid hs' hn hv h =>
      obtain ⟨gg, c, e2, rfl⟩ := h (by rw [hk.2.2.2.1, hm])
      refine ⟨.pointer (some ⟨gg, i * G.sz id + (o + off), none⟩), ?_, .elt _ _ _ _ _ hid hs' hn ⟨_, rfl⟩ fun _ => ⟨gg, c, e2, rfl⟩⟩
      intro w' _
      simp [execOp, he, run_fieldAt hF hf hs, addr_add, Nat.add_assoc]

/-- a part of a struct's cells -/
def partA (cs : List AV) (off s : Nat) (agg : Bool) : Option AV := if agg then (if off + s ≤ cs.length then some (.agg ((cs.drop off).take s)) else none) else cs[off]?
theorem op_field {fl : List (Nat × Nat × Bool)} {f off s : Nat} {b : Bool} {cs : List AV} {v : AV} (hx : st.ev x = .agg cs) (hF : fieldsP P t = some fl) (hf : fl[f]? = some (off, s, b)) (hv : partA cs off s b = some v) (hd : dok d n = true) :
    OpR P n ⟨d, .field t x f, ty, ps, af, g⟩ st v :=
  .mk hd fun K a w G rr => by
    have e1 := rr.ev x
    rw [hx] at e1
    obtain ⟨us, e2, hl, hr⟩ := e1.agg'
    obtain ⟨fs, fd, i, D, h1, h2, h3, h4, h5, h6, h7⟩ := fieldsP_at hF hf
    have hsz : ∀ w' : World, (sizeOf fd.type).run P w' = .ok s w' := fun w' => by simp [sizeOf, typeInfo, h3, h6]
    cases b with
    | true =>
      simp only [partA, if_true] at hv
      split at hv
      · rename_i hle
        injection hv with hv
        subst hv
        refine ⟨.agg (us.extract off (off + s)), ?_, .agg _ _ (by simp; omega) fun i a u ha hu => ?_⟩
        · simp [execOp, e2, Instr.field, run_underlying h1, h2, asAgg, part, run_isAgg' h4, h7, hsz, h5]
        · rw [List.getElem?_take] at ha
          split at ha
          · rename_i hi
            rw [List.getElem?_drop] at ha
            rw [Array.getElem?_extract] at hu
            split at hu
            · exact hr _ a u ha hu
            · cases hu
          · cases ha
      · cases hv
    | false =>
      simp only [partA, Bool.false_eq_true, if_false] at hv
      have hlt : off < us.size := by rw [hl]; exact (List.getElem?_eq_some_iff.1 hv).1
      have hu : us[off]? = some us[off] := Array.getElem?_eq_getElem hlt
      refine ⟨us[off], ?_, hr off v _ hv hu⟩
      intro w' _
      simp [execOp, e2, Instr.field, run_underlying h1, h2, asAgg, part, run_isAgg' h4, h7, h5, hlt]

/-! loads -/
theorem run_loadVar1 {D : TypeDesc} (hT : P.underlying t = some D) (hA : aggB D = false) {p : Addr} {v : Value} {w : World} (h : w.cell? p = some v) : (loadVar t p).run P w = .ok v w := by
  simp [loadVar, run_isAgg' hT, hA, h]
theorem run_loadVarN {D : TypeDesc} {z : Option Value} {s b : Nat} (hT : P.underlying t = some D) (hA : aggB D = true) (hI : tyI P t = some (z, s, b)) {bb o : Nat} {w : World} {f : Nat → Value} (h : ∀ j, j < s → w.cell? ⟨bb, o + j, none⟩ = some (f j)) :
    (loadVar t ⟨bb, o, none⟩).run P w = .ok (.agg ((List.range s).map f).toArray) w := by
  simp [loadVar, run_isAgg' hT, hA, run_sizeOf' hI, run_loadCells w ⟨bb, o, none⟩ s f (by intro j hj; rw [addr_add]; exact h j hj)]
/-- what is read at cells whose values are known -/
theorem load_core {K : Kn} {a : Act} {w : World} {G : Gh} {D : TypeDesc} {z : Option Value} {s b : Nat} {cs : List AV} {off : Nat} {v : AV} {bb o : Nat} {f : Nat → Value} (hT : P.underlying t = some D) (hI : tyI P t = some (z, s, b)) (hv : partA cs off s (aggB D) = some v)
    (he : a.eval x = .pointer (some ⟨bb, o + off, none⟩)) (hc : ∀ (j : Nat) (c : AV), cs[j]? = some c → w.cell? ⟨bb, o + j, none⟩ = some (f j)) (hr : ∀ (j : Nat) (c : AV), cs[j]? = some c → RelV w G c (f j)) (_ : RelG K n st a w G) :
    ∃ u, (∀ w', Below w.heap.size w w' → (execOp a.eval ⟨d, .load t x, ty, ps, af, g⟩).run P w' = .ok (.value u) w') ∧ RelV w G v u := by
  have hk : ∀ {p : Addr} {u : Value} {w' : World}, Below w.heap.size w w' → w.cell? p = some u → w'.cell? p = some u := fun hb h => (hb.cell (cell_lt h)).trans h
  cases hA : aggB D with
  | true =>
    rw [hA] at hv
    simp only [partA, if_true] at hv
    split at hv
    · rename_i hle
      injection hv with hv
      subst hv
      have hcc : ∀ j, j < s → w.cell? ⟨bb, o + off + j, none⟩ = some (f (off + j)) := by
        intro j hj
        rw [Nat.add_assoc]
        exact hc (off + j) _ (List.getElem?_eq_getElem (show off + j < cs.length by omega))
      refine ⟨_, fun w' hb => by simp [execOp, he, Instr.loadAt, Instr.sureAddr, run_loadVarN hT hA hI (o := o + off) (f := fun j => f (off + j)) (fun j hj => hk hb (hcc j hj))]; rfl, .agg _ _ (by simp; omega) fun i a u ha hu => ?_⟩
      rw [List.getElem?_take] at ha
      split at ha
      · rename_i hi
        rw [List.getElem?_drop] at ha
        rw [List.getElem?_toArray, List.getElem?_map, List.getElem?_range hi] at hu
        injection hu with hu
        subst hu
        exact hr _ a ha
      · cases ha
    · cases hv
  | false =>
    rw [hA] at hv
    simp only [partA, Bool.false_eq_true, if_false] at hv
    exact ⟨f off, fun w' hb => by simp [execOp, he, Instr.loadAt, Instr.sureAddr, run_loadVar1 hT hA (hk hb (hc off v hv))], hr off v hv⟩
theorem op_load_box {D : TypeDesc} {z : Option Value} {s b : Nat} {id o : Nat} {cs : List AV} {e : TypeId} {v : AV} (hx : st.ev x = .box id o) (hb : look .dead st.heap id = .box cs e) (hT : P.underlying t = some D) (hI : tyI P t = some (z, s, b)) (hv : partA cs o s (aggB D) = some v) (hd : dok d n = true) :
    OpR P n ⟨d, .load t x, ty, ps, af, g⟩ st v :=
  .mk hd fun K a w G rr => by
    have e1 := rr.ev x
    rw [hx] at e1
    obtain ⟨gg, vs, e2, _, hh, hsz, hc⟩ := rr.boxAt hb e1
    refine load_core (o := 0) (f := fun j => vs.getD j undef) hT hI hv (by rw [e2, Nat.zero_add]) (fun j c hj => ?_) (fun j c hj => ?_) rr
    · obtain ⟨u, h1, _⟩ := hc j c hj
      rw [Nat.zero_add, cell_of_cells hh h1, Array.getD_eq_getD_getElem?, h1]; rfl
    · obtain ⟨u, h1, _, h3⟩ := hc j c hj
      rw [Array.getD_eq_getD_getElem?, h1]; exact h3
theorem op_load_run {K : Kn} {a : Act} {w : World} {G : Gh} (rr : RelG K n st a w G) {D : TypeDesc} {z : Option Value} {s b : Nat} {id tt : Nat} {cs : List AV} {e : TypeId} {v : AV} (hx : look .any st.regs tt = .box id 0) (hb : look .dead st.heap id = .box cs e) (hT : P.underlying t = some D) (hI : tyI P t = some (z, s, b)) (hv : partA cs 0 s (aggB D) = some v) :
    ∃ u, (do loadVar t (← asAddr (a.tmps.getD tt undef)) : Sem Value).run P w = .ok u w ∧ RelV w G v u := by
  have e1 := rr.regs tt
  rw [hx] at e1
  obtain ⟨gg, vs, e2, _, hh, hsz, hc⟩ := rr.boxAt hb e1
  obtain ⟨u, h1, h2⟩ := load_core (P := P) (x := .tmp tt) (d := none) (ty := 0) (ps := "") (af := #[]) (g := none) (o := 0) (off := 0) (bb := gg) (f := fun j => vs.getD j undef) hT hI hv e2 (fun j c hj => by
    obtain ⟨u, h1, _⟩ := hc j c hj
    rw [Nat.zero_add, cell_of_cells hh h1, Array.getD_eq_getD_getElem?, h1]; rfl) (fun j c hj => by
    obtain ⟨u, h1, _, h3⟩ := hc j c hj
    rw [Array.getD_eq_getD_getElem?, h1]; exact h3) rr
  refine ⟨u, ?_, h2⟩
  have h1 := h1 w (Below.refl _ _)
  have e3 : a.eval (.tmp tt) = .pointer (some ⟨gg, 0, none⟩) := e2
  simp only [execOp, e3, Instr.loadAt, Instr.sureAddr, Sem.run_bind, Sem.run_pure, Result.andThen_ok] at h1
  rw [e2]
  simp only [asAddr, Sem.run_bind, Sem.run_pure, Result.andThen_ok]
  cases hl : (loadVar t ⟨gg, 0, none⟩).run P w with
  | ok u' w'' => rw [hl] at h1; simp only [Result.andThen_ok] at h1; injection h1 with h1 h3; injection h1 with h1; subst h1; subst h3; rfl
  | halt x w'' => rw [hl] at h1; simp [Result.andThen] at h1
theorem op_load_peek {D : TypeDesc} {z : Option Value} {s b : Nat} {o : Nat} {row : List AV} {v : AV} (hx : st.ev x = .peek row o) (hT : P.underlying t = some D) (hI : tyI P t = some (z, s, b)) (hv : partA row o s (aggB D) = some v) (hd : dok d n = true) :
    OpR P n ⟨d, .load t x, ty, ps, af, g⟩ st v :=
  .mk hd fun K a w G rr => by
    have e1 := rr.ev x
    rw [hx] at e1
    generalize he : a.eval x = u at e1
    cases e1 with
    | dat h => cases h
    | peek _ _ bb oo ff hr hb h1 h2 => exact load_core (o := oo) (f := ff) hT hI hv he h1 (fun j c hj => .dat (h2 j c hj)) rr
/-- an element of a row of the call's own -/
theorem RelG.rowAt {K : Kn} {a : Act} {w : World} {G : Gh} (r : RelG K n st a w G) {id m : Nat} {sz : Nat} {rows : List (List AV)} {e : TypeId} (hb : look .dead st.heap id = .row sz rows e) (hm : m = rows.length) (h0 : 0 < m) :
    ∃ gg c flat, G.ρ id = .slice (some ⟨gg, 0, none⟩) rows.length c ∧ id < G.nx ∧ G.sz id = sz ∧ 0 < sz ∧ G.ln id = rows.length ∧ w.ownsRow K.w0.heap.size e sz (G.ρ id) rows.length flat ∧ (∀ v ∈ flat, v.oneCell' = true) ∧
      (∀ (i : Nat) (row : List AV), rows[i]? = some row → row.length = sz ∧ ∀ (j : Nat) (a : AV), row[j]? = some a → ∃ v, flat[i * sz + j]? = some v ∧ w.cell? ⟨gg, i * sz + j, none⟩ = some v ∧ RelV w G a v) := by
  have hk := r.hr.blk id
  rw [hb] at hk
  obtain ⟨h1, h2, h3, h4, flat, h5, h6, h7⟩ := hk
  rcases h5.2 with ⟨_, h⟩ | ⟨gg, cap, cur, hv, hbase, hh, hcap, hcm, hcs, htake⟩
  · omega
  · refine ⟨gg, cap, flat, hv, h1, h3, h2, h4, h5, h6, fun i row hi => ?_⟩
    obtain ⟨g1, g2⟩ := h7 i row hi
    refine ⟨g1, fun j a hj => ?_⟩
    obtain ⟨v, g3, g4⟩ := g2 j a hj
    refine ⟨v, g3, ?_, g4⟩
    have h5' := h5
    rw [hv] at h5'
    have := h5'.cellAt (i * sz + j) (by have := (List.getElem?_eq_some_iff.1 g3).1; rw [h5.1] at this; exact this)
    rw [this, g3]
theorem op_load_elt {D : TypeDesc} {z : Option Value} {s b : Nat} {id m i o sz : Nat} {rows : List (List AV)} {e : TypeId} {row : List AV} {v : AV} (hx : st.ev x = .elt id m i o) (hb : look .dead st.heap id = .row sz rows e) (hm : m = rows.length) (hr : rows[i]? = some row) (hT : P.underlying t = some D) (hI : tyI P t = some (z, s, b)) (hv : partA row o s (aggB D) = some v) (hd : dok d n = true) :
    OpR P n ⟨d, .load t x, ty, ps, af, g⟩ st v :=
  .mk hd fun K a w G rr => by
    have e1 := rr.ev x
    rw [hx] at e1
    obtain ⟨gg, c, flat, q1, q2, q3, q4, q5, q6, q7, q8⟩ := rr.rowAt hb hm (by have := (List.getElem?_eq_some_iff.1 hr).1; omega)
    obtain ⟨p1, p2⟩ := q8 i row hr
    generalize he : a.eval x = u at e1
    cases e1 with
    | dat h => cases h
    | elt _ _ _ _ _ hid hs' hn hv' h =>
      obtain ⟨gg', c', e2, rfl⟩ := h (by rw [q5, hm])
      rw [q1] at e2
      injection e2 with e2 _ _
      injection e2 with e2
      injection e2 with e2 _ _
      subst e2
      rw [q3] at he
      refine load_core (o := i * sz) (f := fun j => flat.getD (i * sz + j) undef) hT hI hv he (fun j c hj => ?_) (fun j c hj => ?_) rr
      · obtain ⟨u, h1, h2, _⟩ := p2 j c hj
        rw [h2, List.getD_eq_getElem?_getD, h1]; rfl
      · obtain ⟨u, h1, _, h3⟩ := p2 j c hj
        rw [List.getD_eq_getElem?_getD, h1]; exact h3
end
end Go.Proofs.Ytnbmldnahacnlaa
