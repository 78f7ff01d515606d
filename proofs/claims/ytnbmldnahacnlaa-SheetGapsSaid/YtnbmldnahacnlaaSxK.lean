/- Symbolic walks: the laws of the tactic at regions that draw their order. No program in sight. -/
import Derived.Test.YtnbmldnahacnlaaSxM
namespace Go.Proofs.Ytnbmldnahacnlaa
open Go Go.RowKit

def isWr : Op → Bool
  | .store .. => true
  | .call ⟨.builtin .append, _, _⟩ => true
  | .call ⟨.builtin .copy, _, _⟩ => true
  | .call ⟨.builtin .clear, _, _⟩ => true
  | _ => false
def cutW : Nat → List Oper → Nat
  | i, [] => i
  | i, o :: l => bif isWr o.op then i else cutW (i + 1) l
section
variable {P : Program} {n : Nat} {Q : Exit → ASt → Prop} {st : ASt}
theorem AW.drawQ {id : Nat} {l : List Oper} {m : Nat} {l1 l2 : List Oper} (hm : P.follows .mixedOrders = true) (hk : planOk l.toArray n = true) (_ : cutW 0 l = m) (h1 : l.take m = l1) (h2 : l.drop m = l2) (htail : tailOk' (ancs l []) m (l.drop m) = true)
    (h : AG P n l.toArray (ancs l []) st.nx (fun s => AL P n l.toArray Q l2 s) 0 [] l1 st) : AW P n (.region id l.toArray true) Q st := AW.drawG hm hk m rfl h1 h2 (by rw [← h2]; exact htail) h
/-- a loop: registers and blocks that it leaves alone, and those that turn with the rounds -/
theorem AW.loopS {c : Code} {σ : Type} (stat : List (Nat × AV)) (statH : List (Nat × AB)) (dyn : σ → List (Nat × AV)) (dynH : σ → List (Nat × AB)) (I : σ → Prop) (μ : σ → Nat) (s0 : σ)
    (hle : Le st ⟨dyn s0 ++ stat, dynH s0 ++ statH, st.nx⟩) (h0 : I s0)
    (round : ∀ s, I s → AW P n c (thenA (fun st' => ∃ s', I s' ∧ μ s' < μ s ∧ Le st' ⟨dyn s' ++ stat, dynH s' ++ statH, st.nx⟩) Q) ⟨dyn s ++ stat, dynH s ++ statH, st.nx⟩) : AW P n (.loop c) Q st :=
  AW.loop I (fun s => ⟨dyn s ++ stat, dynH s ++ statH, st.nx⟩) μ (fun _ => rfl) s0 h0 hle round
/-- a scope that no jump leaves -/
def scQ (Q : Exit → ASt → Prop) : Exit → ASt → Prop := fun e s => notGoto e = true ∧ Q e s
theorem AW.scp {c : Code} (h : AW P n c (scQ Q) st) : AW P n (.scope c) Q st := AW.scope h
theorem scQ_n (h : Q .normal st) : scQ Q .normal st := ⟨rfl, h⟩
theorem scQ_ret (h : Q .ret st) : scQ Q .ret st := ⟨rfl, h⟩
theorem scQ_exit {id : Nat} (h : Q (.exit id) st) : scQ Q (.exit id) st := ⟨rfl, h⟩
variable {ops : Array Oper} {T : List (List Nat)} {nx0 i : Nat} {cr : List (Nat × Nat)} {Kt : ASt → Prop} {l : List Oper} {o : Oper} {x : AV} {p : Prop} {TT : Tab}
def lclS (ops : Array Oper) (st : ASt) (o : Oper) (k : Nat) : ASt := ⟨(o.looksAt ops).map (fun t => (t, look .any st.regs t)), st.heap, k⟩
theorem lcl_all (hv : (st.heap.all fun p => vis T nx0 i cr p.1) = true) (k : Nat) : lcl ops T nx0 i cr st o k = lclS ops st o k := by
  unfold lcl lclS
  rw [List.filter_eq_self.2 fun p hp => List.all_eq_true.1 hv p hp]
theorem look_mapIn {f : Nat → AV} : ∀ {l : List Nat} {t : Nat}, t ∈ l → look .any (l.map fun t => (t, f t)) t = f t
  | [], _, h => by cases h
  | a :: l, t, h => by
    rw [List.map_cons, look_cons]
    split
    · rename_i e; subst e; rfl
    · rename_i e
      exact look_mapIn ((List.mem_cons.1 h).resolve_left fun e' => e e'.symm)
theorem ev_lcl {y : Operand} (k : Nat) (h : y ∈ o.op.operands) : (lclS ops st o k).ev y = st.ev y := by
  cases y with
  | tmp t => exact look_mapIn (List.mem_append_left _ (List.mem_filterMap.2 ⟨.tmp t, by simpa using h, rfl⟩))
  | _ => rfl
theorem evParts_lcl (k : Nat) : ∀ (l : List (Nat × Operand)), (∀ p ∈ l, p.2 ∈ o.op.operands) → evParts (lclS ops st o k) l = evParts st l := by
  intro l
  induction l with
  | nil => intro _; rfl
  | cons p l ih =>
    intro h
    obtain ⟨j, y⟩ := p
    rw [evParts, evParts, ev_lcl k (h (j, y) (by simp)), ih (fun p hp => h p (List.mem_cons_of_mem _ hp))]
theorem gst_lcl (k : Nat) : gst ops o (lclS ops st o k) = gst ops o st := by
  unfold gst
  cases hg : gdst ops o with
  | none => rfl
  | some q =>
    obtain ⟨d, want⟩ := q
    have hm : d ∈ o.looksAt ops := by
      unfold gdst at hg
      unfold Oper.looksAt
      cases hgd : o.guard with
      | none => rw [hgd] at hg; cases hg
      | some q =>
        obtain ⟨j, wt⟩ := q
        rw [hgd] at hg
        obtain ⟨d', hd', e⟩ := Option.map_eq_some_iff.1 hg
        injection e with e1 e2
        subst e1
        exact List.mem_append_right _ (by simp [hd'])
    have : look .any (lclS ops st o k).regs d = look .any st.regs d := look_mapIn hm
    simp only [this]
theorem stepR_lcl (k : Nat) : stepR TT (lclS ops st o k) o.op = stepR TT st o.op := by
  have hev : ∀ y, y ∈ o.op.operands → (lclS ops st o k).ev y = st.ev y := fun y hy => ev_lcl k hy
  have hep : ∀ (l : List (Nat × Operand)), (∀ p ∈ l, p.2 ∈ o.op.operands) → evParts (lclS ops st o k) l = evParts st l := fun l hl => evParts_lcl k l hl
  have hh : (lclS ops st o k).heap = st.heap := rfl
  generalize lclS ops st o k = s at *
  obtain ⟨d, op, ty, ps, af, g⟩ := o
  simp only at hev hep ⊢
  cases op <;> simp only [stepR, fldR, loadR, hh] <;> try rfl
  case move y => rw [hev y (by simp [Op.operands])]
  case assign y => rw [hev y (by simp [Op.operands])]
  case pick c a b => rw [hev c (by simp [Op.operands]), hev a (by simp [Op.operands]), hev b (by simp [Op.operands])]
  case binOp op t y z t' => rw [hev y (by simp [Op.operands]), hev z (by simp [Op.operands])]
  case unOp op t y => cases op <;> simp only <;> try rw [hev y (by simp [Op.operands])]
  case convert t t' y => rw [hev y (by simp [Op.operands])]
  case extract y j => rw [hev y (by simp [Op.operands])]
  case fieldAddr t y f => rw [hev y (by simp [Op.operands])]
  case nilCheck y => rw [hev y (by simp [Op.operands])]
  case field t y f => rw [hev y (by simp [Op.operands])]
  case load t y => rw [hev y (by simp [Op.operands])]
  case build t parts =>
    rw [hep parts.toList (fun p hp => by simp only [Op.operands]; simp; exact ⟨p.1, by simpa using hp⟩)]
theorem stepB_lcl (k : Nat) : stepB TT (lclS ops st o k) o.op = stepB TT st o.op := by
  have hev : ∀ y, y ∈ o.op.operands → (lclS ops st o k).ev y = st.ev y := fun y hy => ev_lcl k hy
  have hep : ∀ (l : List (Nat × Operand)), (∀ p ∈ l, p.2 ∈ o.op.operands) → evParts (lclS ops st o k) l = evParts st l := fun l hl => evParts_lcl k l hl
  generalize lclS ops st o k = s at *
  obtain ⟨d, op, ty, ps, af, g⟩ := o
  simp only at hev hep ⊢
  cases op <;> simp only [stepB, litB] <;> try rfl
  case box e y => rw [hev y (by simp [Op.operands])]
  case makeSlice t a b => rw [hev a (by simp [Op.operands]), hev b (by simp [Op.operands])]
  case buildSlice t L parts =>
    rw [hep parts.toList (fun p hp => by simp only [Op.operands]; simp; exact ⟨p.1, by simpa using hp⟩)]
theorem evL_lcl (k : Nat) : ∀ (l : List Operand), (∀ y ∈ l, y ∈ o.op.operands) → l.map (lclS ops st o k).ev = l.map st.ev := by
  intro l h
  exact List.map_congr_left fun y hy => ev_lcl k (h y hy)
variable {d : Option Nat} {op : Op} {ty : TypeId} {ps : String} {af : Array Edge} {gd : Nat × Bool}
theorem AG.sr (hT : TT.ok P) (hv : (st.heap.all fun p => vis T nx0 i cr p.1) = true) (h : stepR TT st op = some (x, p)) (hd : dok d n = true) (hp : p) (hn : x.nmd (vis T nx0 i cr) = true) (k : AG P n ops T nx0 Kt (i + 1) cr l (st.put d x)) : AG P n ops T nx0 Kt i cr (⟨d, op, ty, ps, af, none⟩ :: l) st :=
  .step (.read (.inl rfl) (fun k => by rw [lcl_all hv]; exact stepR_ok hT ((stepR_lcl k).trans h) hp hd) hn) k
theorem AG.srg (hT : TT.ok P) (hg : gst ops ⟨d, op, ty, ps, af, some gd⟩ st = some true) (hv : (st.heap.all fun p => vis T nx0 i cr p.1) = true) (h : stepR TT st op = some (x, p)) (hd : dok d n = true) (hp : p) (hn : x.nmd (vis T nx0 i cr) = true) (k : AG P n ops T nx0 Kt (i + 1) cr l (st.put d x)) : AG P n ops T nx0 Kt i cr (⟨d, op, ty, ps, af, some gd⟩ :: l) st :=
  .step (.read (.inr (by rw [lcl_all hv, gst_lcl]; exact hg)) (fun k => by rw [lcl_all hv]; exact stepR_ok hT ((stepR_lcl k).trans h) hp hd) hn) k
theorem AG.sk (hg : gst ops ⟨d, op, ty, ps, af, some gd⟩ st = some false) (hv : (st.heap.all fun p => vis T nx0 i cr p.1) = true) (hd : dok d n = true) (k : AG P n ops T nx0 Kt (i + 1) cr l (st.put d .und)) : AG P n ops T nx0 Kt i cr (⟨d, op, ty, ps, af, some gd⟩ :: l) st :=
  .step (.skip (by rw [lcl_all hv, gst_lcl]; exact hg) hd) k
theorem AG.sb {b : AB} (hT : TT.ok P) (hv : (st.heap.all fun p => vis T nx0 i cr p.1) = true) (h : stepB TT st op = some (b, p)) (hd : dok d n = true) (hp : p) (hn : b.nmd (vis T nx0 i cr) = true) (k : AG P n ops T nx0 Kt (i + 1) ((i, st.nx) :: cr) l ((st.hnew b).put d (refB b st.nx))) : AG P n ops T nx0 Kt i cr (⟨d, op, ty, ps, af, none⟩ :: l) st :=
  .step (.new (.inl rfl) (fun k => by rw [lcl_all hv]; exact stepB_ok hT ((stepB_lcl k).trans h) hp hd) hn) k
/-- a new block while others have been made that it does not wait for: it looks at no block -/
theorem AG.alloc {e : TypeId} {z : Value} {s b : Nat} (hI : tyI P e = some (some z, s, b)) (h1 : allOne (z.cells.toList.map avOf) = true) (hd : dok d n = true) (hn : (AB.box (z.cells.toList.map avOf) e).nmd (vis T nx0 i cr) = true) (k : AG P n ops T nx0 Kt (i + 1) ((i, st.nx) :: cr) l ((st.hnew (.box (z.cells.toList.map avOf) e)).put d (.box st.nx 0))) : AG P n ops T nx0 Kt i cr (⟨d, .alloc e, ty, ps, af, none⟩ :: l) st :=
  .step (.new (.inl rfl) (fun _ => opN_alloc hI h1 hd) hn) k
theorem AG.opr (hg : o.guard = none) (hv : (st.heap.all fun p => vis T nx0 i cr p.1) = true) (h : ∀ k, OpR P n o (lclS ops st o k) x) (hn : x.nmd (vis T nx0 i cr) = true) (k : AG P n ops T nx0 Kt (i + 1) cr l (st.put o.dst x)) : AG P n ops T nx0 Kt i cr (o :: l) st :=
  .step (.read (.inl hg) (fun k => by rw [lcl_all hv]; exact h k) hn) k
theorem AG.oprg (hg : gst ops o st = some true) (hv : (st.heap.all fun p => vis T nx0 i cr p.1) = true) (h : ∀ k, OpR P n o (lclS ops st o k) x) (hn : x.nmd (vis T nx0 i cr) = true) (k : AG P n ops T nx0 Kt (i + 1) cr l (st.put o.dst x)) : AG P n ops T nx0 Kt i cr (o :: l) st :=
  .step (.read (.inr (by rw [lcl_all hv, gst_lcl]; exact hg)) (fun k => by rw [lcl_all hv]; exact h k) hn) k
variable {cal : Operand} {args : Array Operand} {ats : Array TypeId} {F : FuncId} {caps xs0 xs xs' : List AV} {y : AV}
theorem OpF.lcl {g : Option (Nat × Bool)} (hc : st.ev cal = .fn F caps) (hxs : EvL st args.toList xs0) (hca : xs0 ++ caps = xs) (hF : callable P F = true) (hd : dok d n = true) (hfz : FrzL st.heap xs xs') (hAF : AF P F xs' y) (k : Nat) :
    OpF P n ⟨d, .call { callee := .value cal, args := args, argTypes := ats }, ty, ps, af, g⟩ (lclS ops st ⟨d, .call { callee := .value cal, args := args, argTypes := ats }, ty, ps, af, g⟩ k) y := by
  refine OpF.of (caps := caps) ?_ rfl hF hd hAF ?_
  · rw [← hc]
    exact ev_lcl k (by simp [Op.operands, Call.operands])
  · rw [evL_lcl k _ (fun y hy => by simp [Op.operands, Call.operands]; exact .inr (by simpa using hy)), hxs.eqc hca]
    exact hfz
theorem AG.cf (hc : st.ev cal = .fn F caps) (hxs : EvL st args.toList xs0) (hca : xs0 ++ caps = xs) (hF : callable P F = true) (hd : dok d n = true) (hfz : FrzL st.heap xs xs') (hAF : AF P F xs' y) (hv : (st.heap.all fun p => vis T nx0 i cr p.1) = true) (hn : y.nmd (vis T nx0 i cr) = true) (k : AG P n ops T nx0 Kt (i + 1) cr l (st.put d y)) :
    AG P n ops T nx0 Kt i cr (⟨d, .call { callee := .value cal, args := args, argTypes := ats }, ty, ps, af, none⟩ :: l) st :=
  .step (.call (.inl rfl) (fun k => by rw [lcl_all hv]; exact OpF.lcl hc hxs hca hF hd hfz hAF k) hn) k
theorem AG.cfg (hg : gst ops ⟨d, .call { callee := .value cal, args := args, argTypes := ats }, ty, ps, af, some gd⟩ st = some true) (hc : st.ev cal = .fn F caps) (hxs : EvL st args.toList xs0) (hca : xs0 ++ caps = xs) (hF : callable P F = true) (hd : dok d n = true) (hfz : FrzL st.heap xs xs') (hAF : AF P F xs' y) (hv : (st.heap.all fun p => vis T nx0 i cr p.1) = true) (hn : y.nmd (vis T nx0 i cr) = true) (k : AG P n ops T nx0 Kt (i + 1) cr l (st.put d y)) :
    AG P n ops T nx0 Kt i cr (⟨d, .call { callee := .value cal, args := args, argTypes := ats }, ty, ps, af, some gd⟩ :: l) st :=
  .step (.call (.inr (by rw [lcl_all hv, gst_lcl]; exact hg)) (fun k => by rw [lcl_all hv]; exact OpF.lcl hc hxs hca hF hd hfz hAF k) hn) k
theorem Eqv.known {t : Nat} {v : AV} (h : look .any st.regs t = v) : Eqv st (st.set t v) := ⟨fun k => by
  show _ = look .any ((t, v) :: st.regs) k
  rw [look_cons]
  split
  · rename_i e; subst e; exact h
  · rfl, fun _ => rfl, rfl⟩
theorem AG.spP {pp : Prop} {inst : Decidable pp} {dj : Nat} {want : Bool} (_ : gdst ops ⟨d, op, ty, ps, af, some gd⟩ = some (dj, want)) (hb : look .any st.regs dj = .bool (decide pp)) (h1 : pp → AG P n ops T nx0 Kt i cr (⟨d, op, ty, ps, af, some gd⟩ :: l) (st.set dj (.bool true))) (h2 : ¬ pp → AG P n ops T nx0 Kt i cr (⟨d, op, ty, ps, af, some gd⟩ :: l) (st.set dj (.bool false))) : AG P n ops T nx0 Kt i cr (⟨d, op, ty, ps, af, some gd⟩ :: l) st := by
  by_cases h : pp
  · exact .same (Eqv.known (by rw [hb, decide_eq_true h])) (h1 h)
  · exact .same (Eqv.known (by rw [hb, decide_eq_false h])) (h2 h)
theorem AG.spB {b : Bool} {dj : Nat} {want : Bool} (_ : gdst ops ⟨d, op, ty, ps, af, some gd⟩ = some (dj, want)) (hb : look .any st.regs dj = .bool b) (h1 : b = true → AG P n ops T nx0 Kt i cr (⟨d, op, ty, ps, af, some gd⟩ :: l) (st.set dj (.bool true))) (h2 : b = false → AG P n ops T nx0 Kt i cr (⟨d, op, ty, ps, af, some gd⟩ :: l) (st.set dj (.bool false))) : AG P n ops T nx0 Kt i cr (⟨d, op, ty, ps, af, some gd⟩ :: l) st := by
  cases b with
  | true => exact .same (Eqv.known hb) (h1 rfl)
  | false => exact .same (Eqv.known hb) (h2 rfl)
theorem AL.cfc (hc : st.ev cal = .fn F caps) (hxs : EvL st args.toList xs0) (hca : xs0 ++ caps = xs) (hF : callable P F = true) (hd : dok d n = true) (hfz : FrzL st.heap xs xs') (hAF : AF P F xs' y) (k : AL P n ops Q l (st.put d y)) :
    AL P n ops Q (⟨d, .call { callee := .value cal, args := args, argTypes := ats }, ty, ps, af, none⟩ :: l) st :=
  AL.call hc (hxs.eqc hca) hF hd (AC.of_AF hAF hfz.len hfz.at k)
theorem AL.cfcg (hg : gst ops ⟨d, .call { callee := .value cal, args := args, argTypes := ats }, ty, ps, af, some gd⟩ st = some true) (hc : st.ev cal = .fn F caps) (hxs : EvL st args.toList xs0) (hca : xs0 ++ caps = xs) (hF : callable P F = true) (hd : dok d n = true) (hfz : FrzL st.heap xs xs') (hAF : AF P F xs' y) (k : AL P n ops Q l (st.put d y)) :
    AL P n ops Q (⟨d, .call { callee := .value cal, args := args, argTypes := ats }, ty, ps, af, some gd⟩ :: l) st := by
  obtain ⟨_, want, h1, h2⟩ := gst_yes hg
  exact AL.callg h1 h2 hc (hxs.eqc hca) hF hd (AC.of_AF hAF hfz.len hfz.at k)
/-- a contract on the caller's memory -/
theorem AL.ca (hc : st.ev cal = .fn F caps) (hxs : EvL st args.toList xs0) (hca : xs0 ++ caps = xs) (hF : callable P F = true) (hd : dok d n = true) (h : AC P F xs st.heap st.nx (fun x hp nx => AL P n ops Q l (callSt st d x hp nx))) :
    AL P n ops Q (⟨d, .call { callee := .value cal, args := args, argTypes := ats }, ty, ps, af, none⟩ :: l) st := AL.call hc (hxs.eqc hca) hF hd h
theorem FrzA.fn' {hp : List (Nat × AB)} {f : FuncId} {cs cs' : List AV} (h : FrzL hp cs cs') : FrzA hp (.fn f cs) (.fn f cs') := .fn f cs cs' h.len h.at
theorem FrzA.nilp' {hp : List (Nat × AB)} : FrzA hp .nilp .nilp := .dat _ rfl _ (by rw [AV.old])
theorem FrzA.elt' {hp : List (Nat × AB)} {id n i j sz : Nat} {rows : List (List AV)} {cs cs' : List AV} {e : TypeId} (h : look .dead hp id = .row sz rows e) (hn : n = rows.length) (hi : rows[i]? = some cs) (hD : (cs'.all isD) = true) (hne : cs' ≠ []) (hl : FrzL hp cs cs') : FrzA hp (.elt id n i j) (.peek cs' j) :=
  .peekElt id n i j sz rows cs cs' e h hn hi hl.len hl.at (fun b hb => List.all_eq_true.1 hD b hb) hne
end
end Go.Proofs.Ytnbmldnahacnlaa
