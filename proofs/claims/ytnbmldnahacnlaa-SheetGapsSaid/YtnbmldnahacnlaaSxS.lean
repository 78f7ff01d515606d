/- Symbolic walks: regions that draw their order and write: the stores come one after another, the first behind all that reads. No program in sight. -/
import Derived.Test.YtnbmldnahacnlaaSxI
namespace Go.Proofs.Ytnbmldnahacnlaa
open Go Go.RowKit

def storePos (i : Nat) : List Oper → List Nat
  | [] => []
  | o :: l => match o.op with
    | .store .. => i :: storePos (i + 1) l
    | _ => storePos (i + 1) l
def incr : List Nat → Bool
  | a :: b :: l => Nat.blt a b && incr (b :: l)
  | _ => true
theorem incr_lt : ∀ {l : List Nat} {i j a b : Nat}, incr l = true → l[i]? = some a → l[j]? = some b → i < j → a < b
  | [], i, j, a, b, _, h, _, _ => by simp at h
  | [x], i, j, a, b, _, h1, h2, hlt => by
    have := (List.getElem?_eq_some_iff.1 h2).1
    simp at this
    omega
  | x :: y :: l, i, j, a, b, h, h1, h2, hlt => by
    rw [incr, Bool.and_eq_true] at h
    have hxy : x < y := by simpa using h.1
    cases i with
    | succ i => exact incr_lt (i := i) (j := j - 1) h.2 (by simpa using h1) (by rw [show j = (j - 1) + 1 by omega] at h2; simpa using h2) (by omega)
    | zero =>
      simp at h1
      subst h1
      by_cases hj : j = 1
      · subst hj; simp at h2; subst h2; exact hxy
      · have := incr_lt (i := 0) (j := j - 1) (a := y) (b := b) h.2 rfl (by rw [show j = (j - 1) + 1 by omega] at h2; simpa using h2) (by omega)
        omega
theorem incr_inj {l : List Nat} {i j a : Nat} (h : incr l = true) (h1 : l[i]? = some a) (h2 : l[j]? = some a) : i = j := by
  rcases Nat.lt_trichotomy i j with hlt | e | hlt
  · exact absurd (incr_lt h h1 h2 hlt) (Nat.lt_irrefl _)
  · exact e
  · exact absurd (incr_lt h h2 h1 hlt) (Nat.lt_irrefl _)
def hasN : List Nat → Nat → Bool
  | [], _ => false
  | a :: l, i => bif Nat.beq a i then true else hasN l i
theorem hasN_mem {l : List Nat} {i : Nat} (h : hasN l i = true) : i ∈ l := by
  induction l with
  | nil => cases h
  | cons a l ih =>
    rw [hasN] at h
    cases hb : Nat.beq a i with
    | true => have := Nat.eq_of_beq_eq_true hb; subst this; simp
    | false => rw [hb] at h; exact List.mem_cons_of_mem _ (ih h)
def edgeOn (o : Oper) (j : Nat) : Bool := o.after.toList.any fun e => Nat.beq e.on j && Region.binds .any e
def edgeOk (o : Oper) (ks ev : List Nat) (r : Nat) : Bool := match r with
  | 0 => ev.all (edgeOn o)
  | r + 1 => match ks[r]? with
    | some k => edgeOn o k
    | none => false
theorem edgeOn_done {o : Oper} {k : Nat} {d : Nat → Bool} (he : edgeOn o k = true) (hdep : ∀ e ∈ o.after, Region.binds .any e = true → d e.on = true) : d k = true := by
  obtain ⟨e, hm, hb⟩ := List.any_eq_true.1 he
  rw [Bool.and_eq_true] at hb
  have := hdep e (by simpa using hm) hb.2
  rwa [Nat.eq_of_beq_eq_true hb.1] at this
/-! what does not hang on the blocks that are written -/
def indep : AV → Bool
  | .int .. | .bool _ | .str _ | .nilp | .nils | .nilf | .box .. | .elt .. | .osl .. => true
  | _ => false
def ind (x : AV) : AV := bif indep x then x else .any
theorem ind_rel {w w' : World} {G : Gh} {x : AV} {v : Value} (h : RelV w G x v) : RelV w' G (ind x) v := by
  cases hx : indep x with
  | false => rw [ind, hx]; exact .dat (.any _)
  | true =>
    rw [ind, hx]
    cases x <;> first | (cases hx; done) | skip
    case int k n => rw [h.int']; exact .dat (.int _ _)
    case bool b => rw [h.bool']; exact .dat (.bool _)
    case str b => rw [h.str']; exact .dat (.str _)
    case nilp => rw [h.nilp']; exact .dat .nilp
    case nils => rw [h.nils']; exact .dat .nils
    case nilf => rw [h.nilf']; exact .dat .nilf
    case box id o => cases h with
      | dat h => cases h
      | box _ _ g h1 h2 h3 => exact .box _ _ g h1 h2 h3
    case elt id n i j => cases h with
      | dat h => cases h
      | elt _ _ _ _ _ h1 h2 h3 h4 h5 => exact .elt _ _ _ _ _ h1 h2 h3 h4 h5
    case osl id n => cases h with
      | dat h => cases h
      | osl _ _ _ h1 h2 h3 h4 h5 => exact .osl _ _ _ h1 h2 h3 h4 h5
def detA : AV → Bool
  | .int .. | .bool _ | .box .. => true
  | _ => false
theorem det_eq {w w' : World} {G : Gh} {x : AV} {u v : Value} (hx : detA x = true) (h : RelV w G x u) (h' : RelV w' G x v) : u = v := by
  cases x <;> first | (cases hx; done) | skip
  case int k n => rw [h.int', h'.int']
  case bool b => rw [h.bool', h'.bool']
  case box id o =>
    cases h with
    | dat h => cases h
    | box _ _ g h1 h2 h3 =>
      cases h' with
      | dat h => cases h
      | box _ _ g' h1' h2' h3' =>
        rw [h3] at h3'
        injection h3' with h3'
        injection h3' with h3'
        injection h3' with h3'
        rw [h3']
def floatS (D : List Nat) (st : ASt) : ASt := ⟨st.regs.map fun p => (p.1, ind p.2), st.heap.filter fun p => !hasN D p.1, st.nx⟩
theorem look_map {l : List (Nat × AV)} {d : Nat} : look .any (l.map fun p => (p.1, ind p.2)) d = ind (look .any l d) := by
  induction l with
  | nil => rfl
  | cons p l ih =>
    obtain ⟨j, v⟩ := p
    rw [List.map_cons, look_cons, look_cons, ih]
    split <;> rfl
theorem look_filter {D : List Nat} {l : List (Nat × AB)} {d : Nat} : look .dead (l.filter fun p => !hasN D p.1) d = bif hasN D d then .dead else look .dead l d := by
  induction l with
  | nil => cases hasN D d <;> rfl
  | cons p l ih =>
    obtain ⟨j, v⟩ := p
    rw [List.filter_cons]
    cases hj : hasN D j with
    | true =>
      simp only [Bool.not_true, Bool.false_eq_true, if_false]
      rw [ih, look_cons]
      cases hd : hasN D d with
      | true => rfl
      | false =>
        split
        · rename_i e; subst e; rw [hj] at hd; cases hd
        · rfl
    | false =>
      simp only [Bool.not_false, if_true]
      rw [look_cons, look_cons, ih]
      split
      · rename_i e; subst e; rw [hj]; rfl
      · rfl
section
variable {P : Program} {n : Nat} {Q : Exit → ASt → Prop} {st : ASt}
/-- a world in which the other blocks still hold what they held -/
def Sim (K : Kn) (n : Nat) (D : List Nat) (st : ASt) (w : World) (G : Gh) : Prop :=
  ∃ st1 a1, RelG K n st1 a1 w G ∧ ∀ id, hasN D id = false → look .dead st1.heap id = look .dead st.heap id
theorem Sim.float {K : Kn} {D : List Nat} {a : Act} {w w' : World} {G : Gh} (r : RelG K n st a w G) (s : Sim K n D st w' G) : RelG K n (floatS D st) a w' G := by
  obtain ⟨st1, a1, r1, h⟩ := s
  refine ⟨r.nx, ⟨r1.hr.bs, r1.hr.below, r1.hr.ownlt, fun id => ?_, r1.hr.dist, r1.hr.ownhas⟩, r1.ext, r.size, r.defers, fun d => ?_⟩
  · show ABok _ _ _ _ (look .dead (st.heap.filter fun p => !hasN D p.1) id)
    rw [look_filter]
    cases hd : hasN D id with
    | true => exact trivial
    | false =>
      rw [← h id hd]
      exact r1.hr.blk id
  · show RelV w' G (look .any (st.regs.map fun p => (p.1, ind p.2)) d) _
    rw [look_map]
    exact ind_rel (r.regs d)
theorem put_heap (st : ASt) (d : Option Nat) (x : AV) : (st.put d x).heap = st.heap := by cases d <;> rfl
theorem Sim.put {K : Kn} {D : List Nat} {w : World} {G : Gh} {d : Option Nat} {x : AV} (s : Sim K n D st w G) : Sim K n D (st.put d x) w G := by
  obtain ⟨st1, a1, r1, h⟩ := s
  exact ⟨st1, a1, r1, fun id hid => by rw [put_heap]; exact h id hid⟩
theorem Sim.unput {K : Kn} {D : List Nat} {w : World} {G : Gh} {d : Option Nat} {x : AV} (s : Sim K n D (st.put d x) w G) : Sim K n D st w G := by
  obtain ⟨st1, a1, r1, h⟩ := s
  exact ⟨st1, a1, r1, fun id hid => by rw [h id hid, put_heap]⟩
/-- a store into a block of the call's own -/
structure OpW (P : Program) (n : Nat) (D : List Nat) (o : Oper) (st st' : ASt) : Prop where
  out : ∀ K a w G, RelG K n st a w G → ∃ v w', ((execOp a.eval o).run P w = .ok (.value v) w' ∨ ((execOp a.eval o).run P w = .ok .skip w' ∧ v = undef)) ∧ RelG K n st' (a.put o.dst v) w' G
  heap : ∀ id, hasN D id = false → look .dead st'.heap id = look .dead st.heap id
inductive AS (P : Program) (n : Nat) (ops : Array Oper) (ks ev D : List Nat) (Kt : ASt → Prop) : Nat → Nat → List Oper → ASt → Prop
  | nil {r i : Nat} {st : ASt} (hr : r = ks.length) (h : Kt st) : AS P n ops ks ev D Kt r i [] st
  | read {i : Nat} {o : Oper} {l : List Oper} {st : ASt} {x : AV} (hg : o.guard = none) (he : hasN ev i = true) (hi : (ks.all fun k => Nat.blt i k) = true) (h : OpR P n o st x) (k : AS P n ops ks ev D Kt 0 (i + 1) l (st.put o.dst x)) : AS P n ops ks ev D Kt 0 i (o :: l) st
  | late {r i : Nat} {o : Oper} {l : List Oper} {st : ASt} {x : AV} (hg : o.guard = none) (hi : (ks.all fun k => !Nat.beq k i) = true) (h : OpR P n o (floatS D st) x) (hx : detA x = true) (k : AS P n ops ks ev D Kt r (i + 1) l (st.put o.dst x)) : AS P n ops ks ev D Kt r i (o :: l) st
  | store {r i : Nat} {o : Oper} {l : List Oper} {st st' : ASt} (hg : o.guard = none) (hi : ks[r]? = some i) (he : edgeOk o ks ev r = true) (h : OpW P n D o st st') (k : AS P n ops ks ev D Kt (r + 1) (i + 1) l st') : AS P n ops ks ev D Kt r i (o :: l) st
def SS (W : Nat → World) (ks ev : List Nat) (d : Nat → Bool) (w : World) : Prop :=
  ∃ m, m ≤ ks.length ∧ w = W m ∧ (∀ (r k : Nat), ks[r]? = some k → (d k = true ↔ r < m)) ∧ (0 < m → ∀ j ∈ ev, d j = true)
theorem SS.up {W : Nat → World} {ks ev : List Nat} {d : Nat → Bool} {w : World} {i : Nat} (h : SS W ks ev d w) (hi : ∀ k ∈ ks, k ≠ i) : SS W ks ev (upd d i) w := by
  obtain ⟨m, h1, h2, h3, h4⟩ := h
  refine ⟨m, h1, h2, fun r k hk => ?_, fun hm j hj => ?_⟩
  · rw [upd_ne (hi k (List.mem_of_getElem? hk))]
    exact h3 r k hk
  · have := h4 hm j hj
    simp [upd, this]
theorem AS.plan {ops : Array Oper} {ks ev D : List Nat} {Kt : ASt → Prop} (hinc : incr ks = true) {r i : Nat} {l : List Oper} {st : ASt} (h : AS P n ops ks ev D Kt r i l st) : ∀ {K : Kn} {a : Act} {w : World} {G : Gh}, RelG K n st a w G →
    ∃ (Wf : Nat → World) (b : Act) (st' : ASt), (∀ j, r < j → j ≤ ks.length → Sim K n D st (Wf j) G) ∧ ∀ W : Nat → World, W r = w → (∀ j, r < j → W j = Wf j) → (∀ j, j < r → Sim K n D st (W j) G) → PlanD P ops (SS W ks ev) i l a b ∧ RelG K n st' b (W ks.length) G ∧ Kt st' := by
  induction h with
  | @nil r i st hr h =>
    intro K a w G rel
    exact ⟨fun _ => w, a, st, fun j _ _ => ⟨st, a, rel, fun _ _ => rfl⟩, fun W h1 _ _ => ⟨.done, by rw [← hr, h1]; exact rel, h⟩⟩
  | @read i o l st x hg he hi h k ih =>
    intro K a w G rg
    obtain ⟨v, h1, h2⟩ := h.out K a w G rg
    obtain ⟨Wf, b, st', hs, hW⟩ := ih (rg.put (dok_lt h.dst) h2)
    refine ⟨Wf, b, st', fun j h1 h2 => (hs j h1 h2).unput, fun W e1 e2 e3 => ?_⟩
    obtain ⟨p, q⟩ := hW W e1 e2 (fun j hj => absurd hj (Nat.not_lt_zero _))
    have hlt : ∀ k ∈ ks, i < k := fun k hk => by have := List.all_eq_true.1 hi k hk; simpa using this
    refine ⟨.yield (wanted_none hg a) (fun d w' hd _ hS => ?_) (fun _ _ hS => hS.up fun k hk e => by have := hlt k hk; omega) p, q⟩
    obtain ⟨m, m1, m2, m3, m4⟩ := hS
    have hm : m = 0 := by
      rcases Nat.eq_zero_or_pos m with h | h
      · exact h
      · have := m4 h i (hasN_mem he)
        rw [this] at hd; cases hd
    subst hm
    rw [m2, e1]
    exact h1 w (Below.refl _ _)
  | @late r i o l st x hg hi h hx k ih =>
    intro K a w G rg
    obtain ⟨v, h1, h2⟩ := h.out K a w G (Sim.float rg ⟨st, a, rg, fun _ _ => rfl⟩)
    obtain ⟨Wf, b, st', hs, hW⟩ := ih (rg.put (dok_lt h.dst) h2)
    refine ⟨Wf, b, st', fun j h1 h2 => (hs j h1 h2).unput, fun W e1 e2 e3 => ?_⟩
    obtain ⟨p, q⟩ := hW W e1 e2 (fun j hj => (e3 j hj).put)
    refine ⟨.yield (wanted_none hg a) (fun d w' _ _ hS => ?_) (fun _ _ hS => hS.up fun k hk e => ?_) p, q⟩
    · obtain ⟨m, m1, m2, _, _⟩ := hS
      have sm : Sim K n D st w' G := by
        rcases Nat.lt_trichotomy m r with hlt | e | hlt
        · rw [m2]; exact e3 m hlt
        · rw [m2, e, e1]; exact ⟨st, a, rg, fun _ _ => rfl⟩
        · rw [m2, e2 m hlt]; exact (hs m hlt m1).unput
      obtain ⟨v', g1, g2⟩ := h.out K a w' G (Sim.float rg sm)
      rw [det_eq hx h2 g2]
      exact g1 w' (Below.refl _ _)
    · have := List.all_eq_true.1 hi k hk
      subst e
      simp at this
  | @store r i o l st st1 hg hi he h k ih =>
    intro K a w G rel
    obtain ⟨v, w1, hrun, rel1⟩ := h.out K a w G rel
    obtain ⟨Wf, b, st', hs, hW⟩ := ih rel1
    have back : ∀ {u : World}, Sim K n D st1 u G → Sim K n D st u G := fun ⟨s1, a1, r1, q⟩ => ⟨s1, a1, r1, fun id hid => by rw [q id hid, h.heap id hid]⟩
    have forth : ∀ {u : World}, Sim K n D st u G → Sim K n D st1 u G := fun ⟨s1, a1, r1, q⟩ => ⟨s1, a1, r1, fun id hid => by rw [q id hid, h.heap id hid]⟩
    refine ⟨fun j => if j = r + 1 then w1 else Wf j, b, st', fun j h1 h2 => ?_, fun W e1 e2 e4 => ?_⟩
    · by_cases e : j = r + 1
      · simp only [e, if_true]
        exact back ⟨st1, _, rel1, fun _ _ => rfl⟩
      · simp only [e, if_false]
        exact back (hs j (by omega) h2)
    have e3 : W (r + 1) = w1 := by rw [e2 (r + 1) (by omega)]; simp
    obtain ⟨p, q⟩ := hW W e3 (fun j hj => (e2 j (by omega)).trans (if_neg (by omega))) (fun j hj => by
      by_cases e : j = r
      · rw [e, e1]; exact forth ⟨st, a, rel, fun _ _ => rfl⟩
      · exact forth (e4 j (by omega)))
    refine ⟨.act (wanted_none hg a) (fun d w' hd hdep hS => ?_) p, q⟩
    obtain ⟨m, m1, m2, m3, m4⟩ := hS
    have hm1 : m ≤ r := by
      rcases Nat.lt_or_ge r m with hlt | hge
      · rw [(m3 r i hi).2 hlt] at hd; cases hd
      · exact hge
    have hm2 : r ≤ m := by
      cases r with
      | zero => omega
      | succ r =>
        have hrl : r < ks.length := by have := (List.getElem?_eq_some_iff.1 hi).1; omega
        have hk : ks[r]? = some ks[r] := List.getElem?_eq_getElem hrl
        have he' : edgeOn o ks[r] = true := by simpa [edgeOk, hk] using he
        have := (m3 r ks[r] hk).1 (edgeOn_done he' hdep)
        omega
    obtain rfl : m = r := by omega
    rw [m2, e1]
    refine ⟨w1, hrun, m + 1, by have := (List.getElem?_eq_some_iff.1 hi).1; omega, e3.symm, fun r' k' hk' => ?_, fun _ j hj => ?_⟩
    · by_cases e : k' = i
      · subst e
        have := incr_inj hinc hk' hi
        subst this
        simp [upd_self]
      · rw [upd_ne e]
        have hne : r' ≠ m := fun e' => by subst e'; rw [hi] at hk'; injection hk' with hk'; exact e hk'.symm
        rw [m3 r' k' hk']
        omega
    · cases m with
      | zero =>
        have := edgeOn_done (List.all_eq_true.1 (show ev.all (edgeOn o) = true from he) j hj) hdep
        simp [upd, this]
      | succ m =>
        have := m4 (by omega) j hj
        simp [upd, this]
theorem AW.drawN {id : Nat} {l : List Oper} (hm : P.follows .mixedOrders = true) (hk : planOk l.toArray n = true) (_ : (storePos 0 l).isEmpty = true) (h : AD P n l.toArray (Q .normal) l st) : AW P n (.region id l.toArray true) Q st := AW.draw hm hk h
/-- the first store, what it waits for -/
def firstStore : List Oper → Option Oper
  | [] => none
  | o :: l => match o.op with
    | .store .. => some o
    | _ => firstStore l
def early (l : List Oper) : List Nat := match firstStore l, (storePos 0 l)[0]? with
  | some o, some k => (List.range k).filter (edgeOn o)
  | _, _ => []
def blkId (st : ASt) (l : List Oper) (x : Operand) : List Nat := match st.ev x with
  | .box id _ => [id]
  | .osl id _ => [id]
  | .elt id _ _ _ => [id]
  | _ => match x with
    | .tmp t => match l.find? (fun o => match o.dst with | some d => Nat.beq d t | none => false) with
      | some o => match o.op with
        | .fieldAddr _ y _ => (match st.ev y with | .box id _ => [id] | .elt id _ _ _ => [id] | _ => [])
        | .indexAddr _ y _ => (match st.ev y with | .osl id _ => [id] | _ => [])
        | .move y => (match st.ev y with | .box id _ => [id] | .osl id _ => [id] | .elt id _ _ _ => [id] | _ => [])
        | _ => []
      | none => []
    | _ => []
def storeIds (st : ASt) (l : List Oper) : List Nat := l.flatMap fun o => match o.op with
  | .store _ x _ => blkId st l x
  | _ => []
theorem AW.drawS {id : Nat} {l : List Oper} {ks ev D : List Nat} (hm : P.follows .mixedOrders = true) (hk : planOk l.toArray n = true) (_ : storePos 0 l = ks) (_ : early l = ev) (_ : storeIds st l = D) (hinc : incr ks = true) (hlt : (ks.all fun k => Nat.blt k l.length) = true) (h : AS P n l.toArray ks ev D (Q .normal) 0 0 l st) : AW P n (.region id l.toArray true) Q st := .mk fun K a w ⟨G, r⟩ => by
  obtain ⟨Wf, b, st', _, hW⟩ := h.plan hinc (K := K) (a := a) (w := w.drew) (G := G) (r.same (below_drew' w))
  obtain ⟨p, rel, hq⟩ := hW (fun j => if j = 0 then w.drew else Wf j) rfl (fun j hj => if_neg (by omega)) (fun j hj => absurd hj (Nat.not_lt_zero _))
  refine wp_region_planD hm (by rw [r.size]; exact hk) ⟨0, Nat.zero_le _, rfl, fun _ _ _ => by simp, fun h => absurd h (Nat.lt_irrefl _)⟩ p fun d w' hd hS => ?_
  obtain ⟨m, m1, m2, m3, m4⟩ := hS
  have hm : m = ks.length := by
    rcases Nat.lt_or_ge m ks.length with h | h
    · have hkk := List.getElem?_eq_getElem h
      have := List.all_eq_true.1 hlt _ (List.getElem_mem h)
      have := (m3 m _ hkk).1 (hd _ (by simpa using this))
      omega
    · omega
  rw [m2, hm]
  exact ⟨st', hq, G, rel⟩
theorem hset_heap {st : ASt} {id : Nat} {b : AB} {D : List Nat} (hD : hasN D id = true) : ∀ i, hasN D i = false → look .dead (st.hset id b).heap i = look .dead st.heap i := fun i hi => by
  show look .dead ((id, b) :: st.heap) i = _
  rw [look_cons, if_neg (fun e => by subst e; rw [hD] at hi; cases hi)]
variable {T : Tab} {ops : Array Oper} {ks ev D : List Nat} {Kt : ASt → Prop} {d : Option Nat} {op : Op} {ty : TypeId} {ps : String} {af : Array Edge} {x : AV} {p : Prop} {l : List Oper} {r i : Nat} {st' : ASt}
theorem opW_box {t : TypeId} {x y : Operand} {z : Option Value} {s b : Nat} {id o : Nat} {cs vs : List AV} {e : TypeId} {g : Option (Nat × Bool)} (hD : hasN D id = true) (hx : st.ev x = .box id o) (hb : look .dead st.heap id = .box cs e) (hy : (st.ev y).cells = vs) (h1 : allOne vs = true) (hI : tyI P t = some (z, s, b)) (hs : vs.length = s) (hle : o + s ≤ cs.length) :
    OpW P n D ⟨none, .store t x y, ty, ps, af, g⟩ st (st.hset id (.box (setR cs o vs) e)) := .mk (fun K a w G r => by
  subst hy
  have e1 := r.ev x
  rw [hx] at e1
  have hcv := (r.ev y).cellsV h1
  obtain ⟨gg, us, e2, hρ, _, _, _⟩ := r.boxAt hb e1
  have hid : id < G.nx := by
    have hk := r.hr.blk id
    rw [hb] at hk
    exact hk.1
  obtain ⟨w', hrun, r2⟩ := RelG.storeBox (P := P) (e := e) hid hρ (st.ev y).cells (a.eval y).cells.toList 0 o cs w r hb (by have := hcv.size; simp; omega) (by simpa using hcv.size) (fun v hv => by
    obtain ⟨i, hi, hv⟩ := List.getElem_of_mem hv
    exact hcv.one i v (by rw [← hv]; simp)) (fun j x' v hx' hv => hcv.rel j x' v hx' (by simpa using hv))
  refine ⟨undef, w', .inr ⟨?_, rfl⟩, r2⟩
  simp [execOp, Instr.storeAt, e2, Instr.sureAddr, run_storeVar' hI (show (a.eval y).cells.size = s by rw [hcv.size, hs]), hrun]) (hset_heap hD)
def storeW (T : Tab) (D : List Nat) (st : ASt) (t : TypeId) (a v : AV) : SO := match a, lk T.inf t with
  | .box id o, some (_, s, _) => match look .dead st.heap id with
    | .box cs e => withCells v fun vs => bif hasN D id && allOne vs && Nat.beq vs.length s && Nat.ble (o + s) cs.length then some (st.hset id (.box (setR cs o vs) e), True) else none
    | _ => none
  | _, _ => none
theorem AS.sr (hT : T.ok P) (he : hasN ev i = true) (hi : (ks.all fun k => Nat.blt i k) = true) (h : stepR T st op = some (x, p)) (hd : dok d n = true) (hp : p) (k : AS P n ops ks ev D Kt 0 (i + 1) l (st.put d x)) : AS P n ops ks ev D Kt 0 i (⟨d, op, ty, ps, af, none⟩ :: l) st := .read rfl he hi (stepR_ok (o := ⟨d, op, ty, ps, af, none⟩) hT h hp hd) k
theorem AS.sf (hT : T.ok P) (hi : (ks.all fun k => !Nat.beq k i) = true) (h : stepR T (floatS D st) op = some (x, p)) (hx : detA x = true) (hd : dok d n = true) (hp : p) (k : AS P n ops ks ev D Kt r (i + 1) l (st.put d x)) : AS P n ops ks ev D Kt r i (⟨d, op, ty, ps, af, none⟩ :: l) st := .late rfl hi (stepR_ok (o := ⟨d, op, ty, ps, af, none⟩) hT h hp hd) hx k
theorem AS.sm {t : TypeId} {y z : Operand} (hT : T.ok P) (hi : ks[r]? = some i) (he : edgeOk ⟨none, .store t y z, ty, ps, af, none⟩ ks ev r = true) (h : storeW T D st t (st.ev y) (st.ev z) = some (st', p)) (k : AS P n ops ks ev D Kt (r + 1) (i + 1) l st') : AS P n ops ks ev D Kt r i (⟨none, .store t y z, ty, ps, af, none⟩ :: l) st := .store rfl hi he (by
  unfold storeW at h
  split at h
  · rename_i id oo q s b h1 h2
    split at h
    · rename_i cs e h3
      rw [withCells_eq] at h
      cases h4 : (hasN D id && allOne (st.ev z).cells && Nat.beq (st.ev z).cells.length s && Nat.ble (oo + s) cs.length) with
      | false => rw [h4] at h; cases h
      | true =>
        rw [h4] at h
        simp only [Bool.and_eq_true] at h4
        simp only [cond_true, Option.some.injEq, Prod.mk.injEq] at h
        obtain ⟨rfl, _⟩ := h
        exact opW_box h4.1.1.1 h1 h3 rfl h4.1.1.2 (allP_at hT.inf h2) (Nat.eq_of_beq_eq_true h4.1.2) (Nat.le_of_ble_eq_true h4.2)
    · cases h
  · cases h) k
end
end Go.Proofs.Ytnbmldnahacnlaa
