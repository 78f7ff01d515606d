/- Symbolic walks: regions that draw their order; more operations. No program in sight. -/
import Derived.Test.YtnbmldnahacnlaaSxC
import Derived.Laws.StructEq
namespace Go.Proofs.Ytnbmldnahacnlaa
open Go Go.RowKit

section
variable {P : Program} {n : Nat} {Q : Exit → ASt → Prop} {st : ASt}
theorem AL.opr {ops : Array Oper} {l : List Oper} {o : Oper} {x : AV} (hg : o.guard = none) (h : OpR P n o st x) (k : AL P n ops Q l (st.put o.dst x)) : AL P n ops Q (o :: l) st := AL.op hg h.opv k
theorem AL.oprg {ops : Array Oper} {l : List Oper} {o : Oper} {x : AV} {d : Nat} {want : Bool} (hg : gdst ops o = some (d, want)) (hb : look .any st.regs d = .bool want) (h : OpR P n o st x) (k : AL P n ops Q l (st.put o.dst x)) : AL P n ops Q (o :: l) st := AL.opg hg hb h.opv k

/-! ### Regions that draw: reads and calls -/
/-- values that are the same wherever they are met -/
def exactA : AV → Bool
  | .int .. | .bool _ | .str _ | .nilp | .nils | .nilf => true
  | .agg cs | .tup cs => exactL cs
  | _ => false
where exactL : List AV → Bool
  | [] => true
  | a :: l => exactA a && exactL l
theorem exactL_at {cs : List AV} {i : Nat} {a : AV} (h : exactA.exactL cs = true) (hi : cs[i]? = some a) : exactA a = true := by
  induction cs generalizing i with
  | nil => simp at hi
  | cons b l ih =>
    rw [exactA.exactL, Bool.and_eq_true] at h
    cases i with
    | zero => simp at hi; subst hi; exact h.1
    | succ i => exact ih h.2 (by simpa using hi)
theorem RelV.exact {w w' : World} {G G' : Gh} {a : AV} {v v' : Value} (h : RelV w G a v) (h' : RelV w' G' a v') (he : exactA a = true) : v = v' := by
  induction h generalizing v' with
  | dat hd =>
    cases hd with
    | any => simp [exactA] at he
    | und => simp [exactA] at he
    | int k m => exact h'.int'.symm
    | bool b => exact h'.bool'.symm
    | str s => exact h'.str'.symm
    | nilp => exact h'.nilp'.symm
    | nils => exact h'.nils'.symm
    | nilf => exact h'.nilf'.symm
    | ro => simp [exactA] at he
  | box => simp [exactA] at he
  | elt => simp [exactA] at he
  | osl => simp [exactA] at he
  | peek => simp [exactA] at he
  | fn => simp [exactA] at he
  | agg cs vs hl _ ih =>
    obtain ⟨us, rfl, hl', hr'⟩ := h'.agg'
    congr 1
    apply Array.ext
    · rw [hl, hl']
    · intro i h1 h2
      have hc : cs[i]? = some cs[i] := List.getElem?_eq_getElem (by omega)
      exact ih i _ _ hc (Array.getElem?_eq_getElem h1) (hr' i _ _ hc (Array.getElem?_eq_getElem h2)) (exactL_at (by simpa [exactA] using he) hc)
  | tup cs vs hl _ ih =>
    obtain ⟨us, rfl, hl', hr'⟩ := h'.tup'
    congr 1
    apply Array.ext
    · rw [hl, hl']
    · intro i h1 h2
      have hc : cs[i]? = some cs[i] := List.getElem?_eq_getElem (by omega)
      exact ih i _ _ hc (Array.getElem?_eq_getElem h1) (hr' i _ _ hc (Array.getElem?_eq_getElem h2)) (exactL_at (by simpa [exactA] using he) hc)
/-- a call whose result is known -/
structure CallX (P : Program) (n : Nat) (o : Oper) (st : ASt) (y : AV) : Prop where
  dst : dok o.dst n = true
  out : ∀ K a w G, RelG K n st a w G → ∃ F args v, (∀ w', (execOp a.eval o).run P w' = .ok (.enter F args) w') ∧ RelV w G y v ∧ ∀ w', Below w.heap.size w w' → Calls P F args w' fun e w'' => e = .returned v ∧ Below w'.heap.size w' w''
inductive AD (P : Program) (n : Nat) (ops : Array Oper) (Kt : ASt → Prop) : List Oper → ASt → Prop
  | nil {st : ASt} (h : Kt st) : AD P n ops Kt [] st
  | op {o : Oper} {l : List Oper} {st : ASt} {x : AV} (hg : o.guard = none) (h : OpR P n o st x) (k : AD P n ops Kt l (st.put o.dst x)) : AD P n ops Kt (o :: l) st
  | opg {o : Oper} {l : List Oper} {st : ASt} {x : AV} {d : Nat} {want : Bool} (hg : gdst ops o = some (d, want)) (hb : look .any st.regs d = .bool want) (h : OpR P n o st x) (k : AD P n ops Kt l (st.put o.dst x)) : AD P n ops Kt (o :: l) st
  | call {o : Oper} {l : List Oper} {st : ASt} {x : AV} (hg : o.guard = none) (h : CallX P n o st x) (k : AD P n ops Kt l (st.put o.dst x)) : AD P n ops Kt (o :: l) st
  | callg {o : Oper} {l : List Oper} {st : ASt} {x : AV} {d : Nat} {want : Bool} (hg : gdst ops o = some (d, want)) (hb : look .any st.regs d = .bool want) (h : CallX P n o st x) (k : AD P n ops Kt l (st.put o.dst x)) : AD P n ops Kt (o :: l) st
  | skip {o : Oper} {l : List Oper} {st : ASt} {d : Nat} {want : Bool} (hg : gdst ops o = some (d, want)) (hd : dok o.dst n = true) (hb : look .any st.regs d = .bool (!want) ∨ look .any st.regs d = .und) (k : AD P n ops Kt l (st.put o.dst .und)) : AD P n ops Kt (o :: l) st
  | same {l : List Oper} {st st' : ASt} (hs : ∀ K a w G, RelG K n st a w G → RelG K n st' a w G) (k : AD P n ops Kt l st') : AD P n ops Kt l st
theorem unwanted_of {ops : Array Oper} {o : Oper} {dj : Nat} {want : Bool} (hg : gdst ops o = some (dj, want)) (hb : look .any st.regs dj = .bool (!want) ∨ look .any st.regs dj = .und) {K : Kn} {a : Act} {w : World} {G : Gh} (r : RelG K n st a w G) : Region.wanted o (yielded ops a.tmps) = false := by
  unfold gdst at hg
  unfold Region.wanted
  cases hgd : o.guard with
  | none => rw [hgd] at hg; cases hg
  | some p =>
    obtain ⟨j, wt⟩ := p
    rw [hgd] at hg
    obtain ⟨d', hd', e⟩ := Option.map_eq_some_iff.1 hg
    injection e with e1 e2
    subst e1; subst e2
    rcases hb with hb | hb
    · simp [yielded_of r hd' hb]
    · have e := r.regs d'
      rw [hb] at e
      have e := e.und'
      have : yielded ops a.tmps j = none := by
        unfold yielded
        rw [hd']
        show (match a.tmps[d']? with | some (.bool b) => some b | _ => none) = none
        rw [Array.getD_eq_getD_getElem?] at e
        cases h : a.tmps[d']? with
        | none => rfl
        | some v => rw [h] at e; simp at e; subst e; rfl
      simp [this]
theorem wanted_none {ops : Array Oper} {o : Oper} (hg : o.guard = none) (a : Act) : Region.wanted o (yielded ops a.tmps) = true := by unfold Region.wanted; rw [hg]
theorem AD.plan {ops : Array Oper} {Kt : ASt → Prop} {l : List Oper} {st : ASt} (h : AD P n ops Kt l st) : ∀ {K : Kn} {a : Act} {w : World} {G : Gh} (i : Nat), RelG K n st a w G → ∃ b st', PlanD P ops (fun _ w' => Below w.heap.size w w') i l a b ∧ RelG K n st' b w G ∧ Kt st' := by
  induction h with
  | nil h => intro K a w G i r; exact ⟨a, _, .done, r, h⟩
  | op hg h k ih =>
    intro K a w G i r
    obtain ⟨v, h1, h2⟩ := h.out K a w G r
    obtain ⟨b, st', p, r', hk⟩ := ih (i + 1) (r.put (dok_lt h.dst) h2)
    exact ⟨b, st', .yield (wanted_none hg a) (fun _ w' _ _ hS => h1 w' hS) (fun _ _ hS => hS) p, r', hk⟩
  | opg hg hb h k ih =>
    intro K a w G i r
    obtain ⟨v, h1, h2⟩ := h.out K a w G r
    obtain ⟨b, st', p, r', hk⟩ := ih (i + 1) (r.put (dok_lt h.dst) h2)
    exact ⟨b, st', .yield (wanted_of hg hb K a w G r) (fun _ w' _ _ hS => h1 w' hS) (fun _ _ hS => hS) p, r', hk⟩
  | call hg h k ih =>
    intro K a w G i r
    obtain ⟨F, args, v, h1, h2, h3⟩ := h.out K a w G r
    obtain ⟨b, st', p, r', hk⟩ := ih (i + 1) (r.put (dok_lt h.dst) h2)
    exact ⟨b, st', .call (wanted_none hg a) h1 (fun _ w' _ hS => (h3 w' hS).mono fun e w'' ⟨e1, e2⟩ => ⟨e1, hS.trans (e2.mono hS.size)⟩) p, r', hk⟩
  | callg hg hb h k ih =>
    intro K a w G i r
    obtain ⟨F, args, v, h1, h2, h3⟩ := h.out K a w G r
    obtain ⟨b, st', p, r', hk⟩ := ih (i + 1) (r.put (dok_lt h.dst) h2)
    exact ⟨b, st', .call (wanted_of hg hb K a w G r) h1 (fun _ w' _ hS => (h3 w' hS).mono fun e w'' ⟨e1, e2⟩ => ⟨e1, hS.trans (e2.mono hS.size)⟩) p, r', hk⟩
  | skip hg hd hb k ih =>
    intro K a w G i r
    obtain ⟨b, st', p, r', hk⟩ := ih (i + 1) (r.put (dok_lt hd) (.dat .und))
    exact ⟨b, st', .skip (unwanted_of hg hb r) (fun _ _ hS => hS) p, r', hk⟩
  | same hs k ih =>
    intro K a w G i r
    exact ih i (hs K a w G r)
theorem AW.draw {id : Nat} {l : List Oper} (hm : P.follows .mixedOrders = true) (hk : planOk l.toArray n = true) (h : AD P n l.toArray (Q .normal) l st) : AW P n (.region id l.toArray true) Q st := .mk fun K a w ⟨G, r⟩ => by
  obtain ⟨b, st', p, r', hq⟩ := h.plan 0 (r.same (below_drew' w))
  exact wp_region_planD hm (by rw [r.size]; exact hk) (Below.refl _ _) p fun d w' _ hS => ⟨st', hq, G, r'.same hS⟩
theorem RelG.known {K : Kn} {a : Act} {w : World} {G : Gh} (r : RelG K n st a w G) {d : Nat} {v : AV} (h : look .any st.regs d = v) : RelG K n (st.set d v) a w G := by
  refine ⟨r.nx, r.hr, r.ext, r.size, r.defers, fun k => ?_⟩
  show RelV w G (look .any ((d, v) :: st.regs) k) _
  rw [look_cons]
  split
  · rename_i e; subst e; rw [← h]; exact r.regs d
  · exact r.regs k
theorem AD.splitP {ops : Array Oper} {Kt : ASt → Prop} {l : List Oper} {o : Oper} {d : Nat} {want : Bool} {p : Prop} {inst : Decidable p} (_ : gdst ops o = some (d, want)) (hb : look .any st.regs d = .bool (decide p))
    (h1 : p → AD P n ops Kt (o :: l) (st.set d (.bool true))) (h2 : ¬ p → AD P n ops Kt (o :: l) (st.set d (.bool false))) : AD P n ops Kt (o :: l) st := by
  by_cases h : p
  · exact .same (fun K a w G r => r.known (by rw [hb, decide_eq_true h])) (h1 h)
  · exact .same (fun K a w G r => r.known (by rw [hb, decide_eq_false h])) (h2 h)
theorem AD.splitB {ops : Array Oper} {Kt : ASt → Prop} {l : List Oper} {o : Oper} {d : Nat} {want b : Bool} (_ : gdst ops o = some (d, want)) (hb : look .any st.regs d = .bool b)
    (h1 : b = true → AD P n ops Kt (o :: l) (st.set d (.bool true))) (h2 : b = false → AD P n ops Kt (o :: l) (st.set d (.bool false))) : AD P n ops Kt (o :: l) st := by
  cases b with
  | true => exact .same (fun K a w G r => r.known hb) (h1 rfl)
  | false => exact .same (fun K a w G r => r.known hb) (h2 rfl)
/-- a call by its contract, in a region that draws -/
theorem CallX.of_AF {d : Option Nat} {ty : TypeId} {ps : String} {af : Array Edge} {g : Option (Nat × Bool)} {cal : Operand} {args : Array Operand} {ats : Array TypeId} {F : FuncId} {caps xs xs' : List AV} {y : AV}
    (hc : st.ev cal = .fn F caps) (hxs : args.toList.map st.ev ++ caps = xs) (hF : callable P F = true) (hd : dok d n = true) (hAF : AF P F xs' y) (hl : xs.length = xs'.length) (hx : ∀ (i : Nat) (a b : AV), xs[i]? = some a → xs'[i]? = some b → FrzA st.heap a b) (he : exactA y = true) :
    CallX P n ⟨d, .call { callee := .value cal, args := args, argTypes := ats }, ty, ps, af, g⟩ st y := by
  refine ⟨hd, fun K a w G r => ?_⟩
  subst hxs
  have e1 := r.ev cal
  rw [hc] at e1
  obtain ⟨us, e2, hul, hr⟩ := e1.fn'
  have hargs : ArgsV w G (args.toList.map st.ev ++ caps) (args.map a.eval ++ us) := by
    refine ⟨by simp [hul], fun i x v hx hv => ?_⟩
    by_cases hi : i < args.size
    · rw [List.getElem?_append_left (by simpa using hi)] at hx
      rw [Array.getElem?_append_left (by simpa using hi)] at hv
      refine list_ev r args.toList i x v hx ?_
      rw [List.getElem?_map, Array.getElem?_toList]
      rw [Array.getElem?_map] at hv
      exact hv
    · rw [List.getElem?_append_right (by simp; omega)] at hx
      rw [Array.getElem?_append_right (by simp; omega)] at hv
      exact hr _ x v hx (by simpa using hv)
  have hac : ∀ w', Below w.heap.size w w' → Calls P F (args.map a.eval ++ us) w' fun e w'' => ∃ v, e = .returned v ∧ Below w'.heap.size w' w'' ∧ RelV w'' (Gh.frz w'.heap.size) y v := by
    intro w' hb
    have r' := r.same hb
    refine hAF.out w' _ ⟨by rw [hargs.size, hl], fun i b v hb' hv => ?_⟩
    have hi : i < (args.toList.map st.ev ++ caps).length := by rw [hl]; exact (List.getElem?_eq_some_iff.1 hb').1
    have hxi := List.getElem?_eq_getElem hi
    exact (hx i _ b hxi hb').rel r'.hr ((hargs.rel i _ v hxi hv).ext (r.hr.same hb).2)
  obtain ⟨v, hv⟩ : ∃ v, RelV w G y v := by
    obtain ⟨e, w', fr, ⟨v, _, _, h3⟩, _⟩ := hac w (Below.refl _ _) []
    have key : ∀ {a : AV} {v : Value} {w' : World} {G' : Gh}, RelV w' G' a v → exactA a = true → RelV w G a v := by
      intro a v w' G' h
      induction h with
      | dat hd =>
        intro he
        cases hd with
        | any => simp [exactA] at he
        | und => simp [exactA] at he
        | int k m => exact .dat (.int k m)
        | bool b => exact .dat (.bool b)
        | str s => exact .dat (.str s)
        | nilp => exact .dat .nilp
        | nils => exact .dat .nils
        | nilf => exact .dat .nilf
        | ro => simp [exactA] at he
      | box => intro he; simp [exactA] at he
      | elt => intro he; simp [exactA] at he
      | osl => intro he; simp [exactA] at he
      | peek => intro he; simp [exactA] at he
      | fn => intro he; simp [exactA] at he
      | agg cs vs hl _ ih => intro he; exact .agg cs vs hl fun i a v g1 g2 => ih i a v g1 g2 (exactL_at (by simpa [exactA] using he) g1)
      | tup cs vs hl _ ih => intro he; exact .tup cs vs hl fun i a v g1 g2 => ih i a v g1 g2 (exactL_at (by simpa [exactA] using he) g1)
    exact ⟨v, key h3 he⟩
  refine ⟨F, _, v, fun w' => by simp [execOp, resolve, e2, Deferred.ofValue, invoke, run_callFunc' hF], hv, fun w' hb => (hac w' hb).mono fun e w'' ⟨v', h1, h2, h3⟩ => ⟨by rw [h1, h3.exact hv he], h2⟩⟩
end
end Go.Proofs.Ytnbmldnahacnlaa
