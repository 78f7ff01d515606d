/- A run of the abstract machine by one computed function. No program in sight. -/
import Derived.Test.YtnbmldnahacnlaaSxQ
namespace Go.Proofs.Ytnbmldnahacnlaa
open Go Go.RowKit

/-! ### More reads -/
def convQ (T : Tab) (st : ASt) (t t' : TypeId) (x : Operand) : Option AV := match lk T.und t, lk T.und t' with
  | some (.slice e), some .string => match lk T.und e with
    | some (.int .u8) => match srcRows st 1 (st.ev x) with
      | some rows => match numsOf rows with
        | some ns => some (.str (strOfNums ns))
        | none => none
      | none => none
    | _ => none
  | _, _ => none
def idxQ (T : Tab) (st : ASt) (t : TypeId) (x y : Operand) : Option AV := match st.ev y, lk T.und t with
  | .int _ i, some (.array L e) => match st.ev x, lk T.und e, lk T.inf e with
    | .agg cs, some D, some (_, s, _) => bif decide (0 ≤ i) && decide (i < (L : Int)) then partA cs (i.toNat * s) s (aggB D) else none
    | _, _, _ => none
  | .int _ i, some .string => match st.ev x with
    | .str s => bif decide (0 ≤ i) then (match s.data.toList[i.toNat]? with
      | some c => some (.int .u8 c.toNat)
      | none => none) else none
    | _ => none
  | _, _ => none
def minQ (hi : Bool) : AV → AV → Option AV
  | .int k m, .int k' q => if k = k' then some (.int k (bif hi then max m q else min m q)) else none
  | _, _ => none
def stepQ (T : Tab) (st : ASt) : Op → Option AV
  | .makeFunc (.func F) ⟨[]⟩ caps => some (.fn F (evL st caps.toList []))
  | .convert t t' x => convQ T st t t' x
  | .index t x y => idxQ T st t x y
  | .binOp .eql _ x y _ => match st.ev x, st.ev y with
    | .str a, .str b => some (.bool (eqBy a b))
    | _, _ => none
  | .binOp .neq _ x y _ => match st.ev x, st.ev y with
    | .str a, .str b => some (.bool (!eqBy a b))
    | _, _ => none
  | .call ⟨.builtin .min, ⟨[x, y]⟩, _⟩ => minQ false (st.ev x) (st.ev y)
  | .call ⟨.builtin .max, ⟨[x, y]⟩, _⟩ => minQ true (st.ev x) (st.ev y)
  | _ => none
section
variable {P : Program} {n : Nat} {T : Tab} {st : ASt} {o : Oper} {x : AV}
theorem stepQ_ok (hT : T.ok P) (h : stepQ T st o.op = some x) (hd : dok o.dst n = true) : OpR P n o st x := by
  obtain ⟨d, op, ty, ps, af, g⟩ := o
  simp only at h
  have hd : dok d n = true := hd
  unfold stepQ at h
  split at h
  · injection h with h
    subst h
    rw [evL_eq, List.append_nil]
    exact op_mkfunc hd
  · unfold convQ at h
    split at h
    · rename_i e h1 h2
      split at h
      · rename_i h3
        split at h
        · rename_i rows h4
          split at h
          · rename_i ns h5
            injection h with h
            subst h
            exact op_bytesStr (by rw [← numsOf_eq h5]; exact srcRows_ok h4) (allP_at hT.und h1) (allP_at hT.und h3) (allP_at hT.und h2) hd
          · cases h
        · cases h
      · cases h
    · cases h
  · unfold idxQ at h
    split at h
    · rename_i k i L e h1 h2
      split at h
      · rename_i cs D q s b h3 h4 h5
        cases hc : (decide (0 ≤ i) && decide (i < (L : Int))) with
        | false => rw [hc] at h; cases h
        | true =>
          rw [hc] at h
          simp only [Bool.and_eq_true, decide_eq_true_eq] at hc
          exact op_index_agg h3 h1 (allP_at hT.und h2) (allP_at hT.und h4) (allP_at hT.inf h5) hc.1 hc.2 h hd
      · cases h
    · rename_i k i h1 h2
      split at h
      · rename_i s h3
        cases hc : decide (0 ≤ i) with
        | false => rw [hc] at h; cases h
        | true =>
          rw [hc] at h
          simp only [cond_true] at h
          split at h
          · rename_i c h4
            injection h with h
            subst h
            exact op_index_str h3 h1 (allP_at hT.und h2) (of_decide_eq_true hc) h4 hd
          · cases h
      · cases h
    · cases h
  · split at h
    · rename_i a b h1 h2
      injection h with h
      subst h
      exact op_streql h1 h2 hd
    · cases h
  · split at h
    · rename_i a b h1 h2
      injection h with h
      subst h
      exact op_strneq h1 h2 hd
    · cases h
  · rename_i y z tt
    unfold minQ at h
    split at h
    · rename_i k m k' q h1 h2
      split at h
      · rename_i hk
        subst hk
        injection h with h
        subst h
        exact op_min h1 h2 hd
      · cases h
    · cases h
  · rename_i y z tt
    unfold minQ at h
    split at h
    · rename_i k m k' q h1 h2
      split at h
      · rename_i hk
        subst hk
        injection h with h
        subst h
        exact op_max h1 h2 hd
      · cases h
    · cases h
  · cases h
/-- what an operation that makes no memory yields -/
def readC (T : Tab) (st : ASt) (op : Op) : Option AV := match stepR T st op with
  | some (x, _) => bif obR T st op then some x else none
  | none => match stepXR T st op with
    | some x => some x
    | none => stepQ T st op
theorem readC_ok (hT : T.ok P) (h : readC T st o.op = some x) (hd : dok o.dst n = true) : OpR P n o st x := by
  unfold readC at h
  split at h
  · rename_i y p h1
    cases hb : obR T st o.op with
    | false => rw [hb] at h; cases h
    | true =>
      rw [hb] at h
      injection h with h
      subst h
      exact stepR_ok hT h1 (obR_ok h1 hb) hd
  · split at h
    · rename_i y h1
      injection h with h
      subst h
      exact stepXR_ok hT h1 hd
    · exact stepQ_ok hT h hd
/-! the number of the next block is not looked at -/
theorem ev_nx (r : List (Nat × AV)) (h : List (Nat × AB)) (k k' : Nat) (x : Operand) : (⟨r, h, k⟩ : ASt).ev x = (⟨r, h, k'⟩ : ASt).ev x := by cases x <;> rfl
theorem evParts_nx (r : List (Nat × AV)) (h : List (Nat × AB)) (k k' : Nat) : ∀ l, evParts ⟨r, h, k⟩ l = evParts ⟨r, h, k'⟩ l := by
  intro l
  induction l with
  | nil => rfl
  | cons p l ih => obtain ⟨i, x⟩ := p; rw [evParts, evParts, ev_nx r h k k', ih]
theorem evL_nx (r : List (Nat × AV)) (h : List (Nat × AB)) (k k' : Nat) (c : List AV) : ∀ l, evL ⟨r, h, k⟩ l c = evL ⟨r, h, k'⟩ l c := by
  intro l
  induction l with
  | nil => rfl
  | cons x l ih => rw [evL, evL, ev_nx r h k k', ih]
theorem stepR_nx (r : List (Nat × AV)) (h : List (Nat × AB)) (k k' : Nat) (op : Op) : stepR T ⟨r, h, k⟩ op = stepR T ⟨r, h, k'⟩ op := by
  cases op <;> simp only [stepR, ev_nx r h k k', evParts_nx r h k k', fldR, loadR]
theorem obR_nx (r : List (Nat × AV)) (h : List (Nat × AB)) (k k' : Nat) (op : Op) : obR T ⟨r, h, k⟩ op = obR T ⟨r, h, k'⟩ op := by
  cases op <;> simp only [obR, ev_nx r h k k']
theorem stepXR_nx (r : List (Nat × AV)) (h : List (Nat × AB)) (k k' : Nat) (op : Op) : stepXR T ⟨r, h, k⟩ op = stepXR T ⟨r, h, k'⟩ op := by
  unfold stepXR
  split <;> simp only [lenR, idxR, ldE, ev_nx r h k k']
theorem srcRows_nx (r : List (Nat × AV)) (h : List (Nat × AB)) (k k' : Nat) (sz : Nat) (a : AV) : srcRows ⟨r, h, k⟩ sz a = srcRows ⟨r, h, k'⟩ sz a := by
  cases a <;> rfl
theorem stepQ_nx (r : List (Nat × AV)) (h : List (Nat × AB)) (k k' : Nat) (op : Op) : stepQ T ⟨r, h, k⟩ op = stepQ T ⟨r, h, k'⟩ op := by
  unfold stepQ
  split <;> simp only [convQ, idxQ, ev_nx r h k k', evL_nx r h k k', srcRows_nx r h k k']
theorem readC_nx (r : List (Nat × AV)) (h : List (Nat × AB)) (k k' : Nat) (op : Op) : readC T ⟨r, h, k⟩ op = readC T ⟨r, h, k'⟩ op := by
  unfold readC
  rw [stepR_nx r h k k', obR_nx r h k k', stepXR_nx r h k k', stepQ_nx r h k k']
theorem stepB_nx (r : List (Nat × AV)) (h : List (Nat × AB)) (k k' : Nat) (op : Op) : stepB T ⟨r, h, k⟩ op = stepB T ⟨r, h, k'⟩ op := by
  cases op <;> simp only [stepB, litB, ev_nx r h k k', evParts_nx r h k k']
end

/-! ### Results as data, tested -/
def scalarA : AV → Bool
  | .int .. | .bool _ | .str _ | .nilp | .nils | .nilf => true
  | _ => false
def mapOO (f : AV → Option AV) : List (List AV) → Option (List (List AV))
  | [] => some []
  | a :: l => match mapO f a, mapOO f l with
    | some b, some m => some (b :: m)
    | _, _ => none
def frzRC (hp : List (Nat × AB)) : Nat → AV → Option AV
  | 0, _ => none
  | f + 1, a => match a with
    | .int k n => some (.int k n)
    | .bool b => some (.bool b)
    | .str s => some (.str s)
    | .nilp => some .nilp
    | .nils => some .nils
    | .nilf => some .nilf
    | .ro true sz rows => bif rows.all fun row => row.all scalarA then some (.ro true sz rows) else none
    | .osl id n => match look .dead hp id with
      | .row sz rows _ => bif Nat.beq n rows.length then (match mapOO (frzRC hp f) rows with
        | some rows' => bif rows'.all fun row => row.all isD then some (.ro true sz rows') else none
        | none => none) else none
      | _ => none
    | .agg cs => match mapO (frzRC hp f) cs with
      | some cs' => some (.agg cs')
      | none => none
    | .tup cs => match mapO (frzRC hp f) cs with
      | some cs' => some (.tup cs')
      | none => none
    | _ => none
theorem scalar_frz {hp : List (Nat × AB)} {a : AV} (h : scalarA a = true) : FrzR hp a a ∧ isD a = true := by
  cases a <;> first | (cases h; done) | exact ⟨.dat _ rfl (fun _ _ _ => by simp), rfl⟩
section
variable {hp : List (Nat × AB)}
theorem frzRC_ok : ∀ (f : Nat) (a b : AV), frzRC hp f a = some b → FrzR hp a b
  | 0, a, b, h => by rw [frzRC] at h; cases h
  | f + 1, a, b, h => by
    have hgo : ∀ (l m : List AV), mapO (frzRC hp f) l = some m → l.length = m.length ∧ ∀ (i : Nat) (a b : AV), l[i]? = some a → m[i]? = some b → FrzR hp a b := by
      intro l
      induction l with
      | nil => intro m hm; rw [mapO] at hm; injection hm with hm; subst hm; exact ⟨rfl, fun i a b h => by simp at h⟩
      | cons x l ih =>
        intro m hm
        rw [mapO] at hm
        split at hm
        · rename_i y m' h1 h2
          injection hm with hm
          subst hm
          obtain ⟨e1, e2⟩ := ih m' h2
          refine ⟨by simp [e1], fun i a b ha hb => ?_⟩
          cases i with
          | zero => simp at ha hb; subst ha; subst hb; exact frzRC_ok f x y h1
          | succ i => exact e2 i a b (by simpa using ha) (by simpa using hb)
        · cases hm
    have hgoR : ∀ (l m : List (List AV)), mapOO (frzRC hp f) l = some m → l.length = m.length ∧ ∀ (i : Nat) (row row' : List AV), l[i]? = some row → m[i]? = some row' → row.length = row'.length ∧ ∀ (j : Nat) (a b : AV), row[j]? = some a → row'[j]? = some b → FrzR hp a b := by
      intro l
      induction l with
      | nil => intro m hm; rw [mapOO] at hm; injection hm with hm; subst hm; exact ⟨rfl, fun i a b h => by simp at h⟩
      | cons x l ih =>
        intro m hm
        rw [mapOO] at hm
        split at hm
        · rename_i y m' h1 h2
          injection hm with hm
          subst hm
          obtain ⟨e1, e2⟩ := ih m' h2
          refine ⟨by simp [e1], fun i a b ha hb => ?_⟩
          cases i with
          | zero => simp at ha hb; subst ha; subst hb; exact hgo _ _ h1
          | succ i => exact e2 i a b (by simpa using ha) (by simpa using hb)
        · cases hm
    cases a <;> (try simp only [frzRC] at h) <;> try (cases h; done)
    case int => injection h with h; subst h; exact .dat _ rfl (fun _ _ _ => by simp)
    case bool => injection h with h; subst h; exact .dat _ rfl (fun _ _ _ => by simp)
    case str => injection h with h; subst h; exact .dat _ rfl (fun _ _ _ => by simp)
    case nilp => injection h with h; subst h; exact .dat _ rfl (fun _ _ _ => by simp)
    case nils => injection h with h; subst h; exact .dat _ rfl (fun _ _ _ => by simp)
    case nilf => injection h with h; subst h; exact .dat _ rfl (fun _ _ _ => by simp)
    case ro fr sz rows =>
      cases fr with
      | false => cases h
      | true =>
        have h : (bif rows.all fun row => row.all scalarA then some (AV.ro true sz rows) else none) = some b := h
        cases hc : (rows.all fun row => row.all scalarA) with
        | false => rw [hc] at h; cases h
        | true =>
          rw [hc] at h
          injection h with h
          subst h
          have hk : ∀ row ∈ rows, ∀ a ∈ row, scalarA a = true := fun row hr a ha => List.all_eq_true.1 (List.all_eq_true.1 hc row hr) a ha
          exact .ro _ _ (fun row hr a ha => (scalar_frz (hk row hr a ha)).1) (fun row hr a ha => (scalar_frz (hp := hp) (hk row hr a ha)).2)
    case osl id n =>
      split at h
      · rename_i sz rows e h1
        cases hn : Nat.beq n rows.length with
        | false => rw [hn] at h; cases h
        | true =>
          rw [hn] at h
          simp only [cond_true] at h
          split at h
          · rename_i rows' h2
            cases hc : (rows'.all fun row => row.all isD) with
            | false => rw [hc] at h; cases h
            | true =>
              rw [hc] at h
              injection h with h
              subst h
              obtain ⟨e1, e2⟩ := hgoR _ _ h2
              exact .oslN id n sz rows rows' e h1 (Nat.eq_of_beq_eq_true hn) e1 (fun i row row' g1 g2 => (e2 i row row' g1 g2).1) (fun i row row' j a a' g1 g2 g3 g4 => (e2 i row row' g1 g2).2 j a a' g3 g4) (fun row hr a ha => List.all_eq_true.1 (List.all_eq_true.1 hc row hr) a ha)
          · cases h
      · cases h
    case agg cs =>
      split at h
      · rename_i cs' h1
        injection h with h
        subst h
        obtain ⟨e1, e2⟩ := hgo _ _ h1
        exact .agg _ _ e1 e2
      · cases h
    case tup cs =>
      split at h
      · rename_i cs' h1
        injection h with h
        subst h
        obtain ⟨e1, e2⟩ := hgo _ _ h1
        exact .tup _ _ e1 e2
      · cases h
end

/-! ### Operations, one after another -/
def nmP {α : Type} (st : ASt) (d : Option Nat) (x : AV) (k : ASt → α) : α := match d with
  | some d => fA1 x fun x => setK d x st.regs fun r => k ⟨r, st.heap, st.nx⟩
  | none => k st
theorem nmP_eq (st : ASt) (d : Option Nat) (x : AV) : ∃ st', Eqv (st.put d x) st' ∧ ∀ {α : Type} (k : ASt → α), nmP st d x k = k st' := by
  cases d with
  | none => exact ⟨st, Eqv.refl _, fun k => rfl⟩
  | some d => exact ⟨⟨setA d x st.regs, st.heap, st.nx⟩, ⟨fun t => (look_setA _ _ _ _ _).symm, fun _ => rfl, rfl⟩, fun k => by rw [nmP, fA1_eq, setK_eq]⟩
def memC (C : Ctx) (self : SelfT) (st : ASt) (o : Oper) : Option ASt := match stepM C.T st o.dst o.op with
  | some (st', _) => bif obM C.T st o.op then some st' else none
  | none => match stepXM C.T st o.dst o.op with
    | some st' => some st'
    | none => callC C self st o.dst o.op
def wantC (ops : Array Oper) (o : Oper) (st : ASt) : Option Bool := match o.guard with
  | none => some true
  | some _ => gst ops o st
def runS (C : Ctx) (self : SelfT) (n : Nat) (ops : Array Oper) : List Oper → ASt → Option ASt
  | [], st => some st
  | o :: l, st => bif dok o.dst n then (match wantC ops o st with
    | some true => match readC C.T st o.op with
      | some x => nmP st o.dst x (runS C self n ops l)
      | none => match memC C self st o with
        | some st' => nm st' (runS C self n ops l)
        | none => none
    | some false => nmP st o.dst .und (runS C self n ops l)
    | none => none) else none
section
variable {P : Program} {n : Nat} {T : Tab} {st st' : ASt} {o : Oper} {x : AV} {Q : Exit → ASt → Prop} {ops : Array Oper} {l : List Oper}
theorem memC_ok {C : Ctx} {self : SelfT} (hC : C.ok P) (hS : SelfOk P self) (hd : dok o.dst n = true) (h : memC C self st o = some st') (hw : ∀ (K : Kn) (a : Act) (w : World) (G : Gh), RelG K n st a w G → Region.wanted o (yielded ops a.tmps) = true) (k : AL P n ops Q l st') : AL P n ops Q (o :: l) st := by
  unfold memC at h
  split at h
  · rename_i s p h1
    cases hb : obM C.T st o.op with
    | false => rw [hb] at h; cases h
    | true =>
      rw [hb] at h
      simp only [cond_true] at h
      injection h with h
      subst h
      exact AL.opw hw (stepM_ok hC.T h1 (obM_ok h1 hb) hd) k
  · split at h
    · rename_i s h1
      injection h with h
      subst h
      exact AL.opw hw (stepXM_ok hC.T h1 hd) k
    · obtain ⟨d, op, ty, ps, af, g⟩ := o
      simp only at h
      unfold callC at h
      split at h
      · rename_i cal args ats _ _
        split at h
        · rename_i F caps h1
          split at h
          · rename_i q h2
            split at h
            · rename_i x hp nx h3
              injection h with h
              subst h
              refine AL.call' hw rfl h1 (evL_eq (st := st) args.toList caps).symm (allP_at hC.cas h2) hd ((hS _ _ _ _ _ _ _ h3).mono ?_)
              rintro x1 hp1 nx1 ⟨rfl, rfl, rfl⟩
              exact k
            · cases h
          · cases h
        · cases h
      · cases h
theorem wantC_yes (h : wantC ops o st = some true) : o.guard = none ∨ gst ops o st = some true := by
  unfold wantC at h
  split at h
  · rename_i hg; exact .inl hg
  · exact .inr h
theorem wantC_no (h : wantC ops o st = some false) : gst ops o st = some false := by
  unfold wantC at h
  split at h
  · cases h
  · exact h
theorem runS_ok {C : Ctx} {self : SelfT} (hC : C.ok P) (hS : SelfOk P self) : ∀ (l : List Oper) (st st' : ASt), runS C self n ops l st = some st' → Q .normal st' → AL P n ops Q l st
  | [], st, st', h, hq => by
    injection h with h
    subst h
    exact AL.nil hq
  | o :: l, st, st', h, hq => by
    rw [runS] at h
    cases hd : dok o.dst n with
    | false => rw [hd] at h; cases h
    | true =>
      rw [hd] at h
      simp only [cond_true] at h
      split at h
      · rename_i hw
        have hw' : ∀ (K : Kn) (a : Act) (w : World) (G : Gh), RelG K n st a w G → Region.wanted o (yielded ops a.tmps) = true := by
          rcases wantC_yes hw with hg | hg
          · exact fun _ a _ _ _ => wanted_none hg a
          · obtain ⟨d, want, g1, g2⟩ := gst_yes hg
            exact wanted_of g1 g2
        split at h
        · rename_i x h1
          obtain ⟨s', e1, e2⟩ := nmP_eq st o.dst x
          rw [e2] at h
          exact AL.opw hw' (readC_ok hC.T h1 hd).opv (AL.eqv e1 (runS_ok hC hS l s' st' h hq))
        · split at h
          · rename_i s h1
            obtain ⟨s', e1, e2⟩ := nm_eq s
            rw [e2] at h
            exact memC_ok hC hS hd h1 hw' (AL.eqv e1 (runS_ok hC hS l s' st' h hq))
          · cases h
      · rename_i hw
        obtain ⟨d, want, g1, g2⟩ := gst_no (wantC_no hw)
        obtain ⟨s', e1, e2⟩ := nmP_eq st o.dst .und
        rw [e2] at h
        exact AL.skipg g1 hd g2 (AL.eqv e1 (runS_ok hC hS l s' st' h hq))
      · cases h
end

/-! ### Operations in any order -/
def callQ (C : Ctx) (self : SelfT) (st : ASt) : Op → Option AV
  | .call ⟨.value cal, args, _⟩ => match st.ev cal with
    | .fn F caps => match lk C.cas F, frzLC st.heap 8 (evL st args.toList caps) with
      | some _, some xs => match self F xs [] 0 with
        | some (y, hp, _) => frzRC hp 8 y
        | none => none
      | _, _ => none
    | _ => none
  | _ => none
def runG (C : Ctx) (self : SelfT) (n : Nat) (ops : Array Oper) (T : List (List Nat)) (nx0 : Nat) (k : ASt → Option ASt) : Nat → List (Nat × Nat) → List Oper → ASt → Option ASt
  | _, _, [], st => k st
  | i, cr, o :: l, st => bif dok o.dst n then (match wantC ops o (lcl ops T nx0 i cr st o 0) with
    | some true => match readC C.T (lcl ops T nx0 i cr st o 0) o.op with
      | some x => bif x.nmd (vis T nx0 i cr) then nmP st o.dst x (runG C self n ops T nx0 k (i + 1) cr l) else none
      | none => match stepB C.T (lcl ops T nx0 i cr st o 0) o.op with
        | some (b, _) => bif obM C.T (lcl ops T nx0 i cr st o 0) o.op && b.nmd (vis T nx0 i cr) then nm ((st.hnew b).put o.dst (refB b st.nx)) (runG C self n ops T nx0 k (i + 1) ((i, st.nx) :: cr) l) else none
        | none => match callQ C self (lcl ops T nx0 i cr st o 0) o.op with
          | some x => bif x.nmd (vis T nx0 i cr) then nmP st o.dst x (runG C self n ops T nx0 k (i + 1) cr l) else none
          | none => none
    | some false => nmP st o.dst .und (runG C self n ops T nx0 k (i + 1) cr l)
    | none => none) else none
section
variable {P : Program} {n : Nat} {T : List (List Nat)} {st st' : ASt} {o : Oper} {x : AV} {Q : Exit → ASt → Prop} {ops : Array Oper} {l : List Oper}
theorem obB_ok' {TT : Tab} {op : Op} {b : AB} {p : Prop} (h : stepB TT st op = some (b, p)) (hb : obM TT st op = true) : p := by
  cases op <;> simp only [stepB] at h <;> try (cases h; done)
  case alloc e =>
    split at h
    · rename_i z s b h1
      cases h2 : allOne (z.cells.toList.map avOf) with
      | false => rw [h2] at h; cases h
      | true =>
        rw [h2] at h
        simp only [cond_true, Option.some.injEq, Prod.mk.injEq] at h
        obtain ⟨_, rfl⟩ := h; trivial
    · cases h
  case box e y =>
    rw [withCellsB_eq] at h
    cases h2 : allOne (st.ev y).cells with
    | false => rw [h2] at h; cases h
    | true =>
      rw [h2] at h
      simp only [cond_true, Option.some.injEq, Prod.mk.injEq] at h
      obtain ⟨_, rfl⟩ := h; trivial
  case makeSlice t ll c =>
    unfold makeB at h
    split at h
    · rename_i e kl L kc C h1 h2 h3
      split at h
      · rename_i z sz b h4
        cases h5 : (allOne (z.cells.toList.map avOf) && Nat.beq (z.cells.toList.map avOf).length sz && Nat.blt 0 sz) with
        | false => rw [h5] at h; cases h
        | true =>
          rw [h5] at h
          simp only [cond_true, Option.some.injEq, Prod.mk.injEq] at h
          obtain ⟨_, rfl⟩ := h
          simp only [obM, h1, h2, h3, h4] at hb
          exact of_decide_eq_true hb
      · cases h
    · cases h
  case buildSlice t L parts =>
    unfold litB at h
    split at h
    · rename_i e h1
      split at h
      · rename_i z sz b h4
        cases h5 : (allOne (z.cells.toList.map avOf) && Nat.beq (z.cells.toList.map avOf).length sz && Nat.blt 0 sz && Nat.ble (L * sz) 16777216) with
        | false => rw [h5] at h; cases h
        | true =>
          rw [h5] at h
          simp only [cond_true] at h
          split at h
          · rename_i out h6
            cases h7 : Nat.beq out.length (L * sz) with
            | false => rw [h7] at h; cases h
            | true =>
              rw [h7] at h
              simp only [cond_true, Option.some.injEq, Prod.mk.injEq] at h
              obtain ⟨_, rfl⟩ := h; trivial
          · cases h
      · cases h
    · cases h
theorem obM_nx {TT : Tab} (r : List (Nat × AV)) (h : List (Nat × AB)) (k k' : Nat) (op : Op) : obM TT ⟨r, h, k⟩ op = obM TT ⟨r, h, k'⟩ op := by
  cases op <;> simp only [obM, ev_nx r h k k']
theorem callQ_ok {C : Ctx} {self : SelfT} (hC : C.ok P) (hS : SelfOk P self) (h : callQ C self st o.op = some x) (hd : dok o.dst n = true) (k : Nat) : OpF P n o ⟨st.regs, st.heap, k⟩ x := by
  obtain ⟨d, op, ty, ps, af, g⟩ := o
  simp only at h
  unfold callQ at h
  split at h
  · rename_i cal args ats
    split at h
    · rename_i F caps h1
      split at h
      · rename_i q xs h2 h3
        split at h
        · rename_i y hp nx h4
          have hfz := frzLC_ok 8 _ _ h3
          have hAF : AF P F xs x := AF.of_AC ((hS _ _ _ _ _ _ _ h4).mono (by rintro x1 hp1 nx1 ⟨rfl, rfl, rfl⟩; exact frzRC_ok 8 _ _ h))
          refine OpF.of (st := ⟨st.regs, st.heap, k⟩) (caps := caps) (by rw [← h1]; exact ev_nx st.regs st.heap k st.nx cal) rfl (allP_at hC.cas h2) hd hAF ?_
          rw [← evL_eq, evL_nx st.regs st.heap k st.nx]
          exact hfz
        · cases h
      · cases h
    · cases h
  · cases h
theorem runG_ok {C : Ctx} {self : SelfT} (hC : C.ok P) (hS : SelfOk P self) {nx0 : Nat} {k : ASt → Option ASt} {Kt : ASt → Prop} (hk : ∀ s, k s = some st' → Kt s) : ∀ (l : List Oper) (i : Nat) (cr : List (Nat × Nat)) (st : ASt), runG C self n ops T nx0 k i cr l st = some st' → AG P n ops T nx0 Kt i cr l st
  | [], i, cr, st, h => .nil (hk st h)
  | o :: l, i, cr, st, h => by
    rw [runG] at h
    cases hd : dok o.dst n with
    | false => rw [hd] at h; cases h
    | true =>
      rw [hd] at h
      simp only [cond_true] at h
      split at h
      · rename_i hw
        have hw' := wantC_yes hw
        split at h
        · rename_i x h1
          cases hn : x.nmd (vis T nx0 i cr) with
          | false => rw [hn] at h; cases h
          | true =>
            rw [hn] at h
            simp only [cond_true] at h
            obtain ⟨s', e1, e2⟩ := nmP_eq st o.dst x
            rw [e2] at h
            exact .step (.read hw' (fun k => readC_ok hC.T (by rw [← h1]; exact readC_nx _ _ _ _ _) hd) hn) (.same e1 (runG_ok hC hS hk l (i + 1) cr s' h))
        · split at h
          · rename_i b p h1
            cases hn : (obM C.T (lcl ops T nx0 i cr st o 0) o.op && b.nmd (vis T nx0 i cr)) with
            | false => rw [hn] at h; cases h
            | true =>
              rw [hn] at h
              rw [Bool.and_eq_true] at hn
              simp only [cond_true] at h
              obtain ⟨s', e1, e2⟩ := nm_eq ((st.hnew b).put o.dst (refB b st.nx))
              rw [e2] at h
              refine .step (.new hw' (fun k => ?_) hn.2) (.same e1 (runG_ok hC hS hk l (i + 1) _ s' h))
              have h2 : stepB C.T (lcl ops T nx0 i cr st o k) o.op = some (b, p) := by rw [← h1]; exact stepB_nx _ _ _ _ _
              exact stepB_ok hC.T h2 (obB_ok' h1 hn.1) hd
          · split at h
            · rename_i x h1
              cases hn : x.nmd (vis T nx0 i cr) with
              | false => rw [hn] at h; cases h
              | true =>
                rw [hn] at h
                simp only [cond_true] at h
                obtain ⟨s', e1, e2⟩ := nmP_eq st o.dst x
                rw [e2] at h
                exact .step (.call hw' (fun k => callQ_ok hC hS h1 hd k) hn) (.same e1 (runG_ok hC hS hk l (i + 1) cr s' h))
            · cases h
      · rename_i hw
        obtain ⟨s', e1, e2⟩ := nmP_eq st o.dst .und
        rw [e2] at h
        exact .step (.skip (wantC_no hw) hd) (.same e1 (runG_ok hC hS hk l (i + 1) cr s' h))
      · cases h
end
/-- where the tail begins -/
def cutG (T : List (List Nat)) : Nat → List Oper → Nat
  | i, [] => i
  | i, o :: l => bif tailOk' T i (o :: l) then i else cutG T (i + 1) l
end Go.Proofs.Ytnbmldnahacnlaa
