/- Symbolic walks: results, calls, contracts. No program in sight. -/
import Derived.Test.YtnbmldnahacnlaaSx6
namespace Go.Proofs.Ytnbmldnahacnlaa
open Go Go.RowKit

theorem run_mapM_list {P : Program} {α β : Type} {w : World} (f : α → Sem β) (g : α → β) : ∀ (l : List α), (∀ x ∈ l, (f x).run P w = .ok (g x) w) → (l.mapM f).run P w = .ok (l.map g) w
  | [], _ => rfl
  | x :: l, h => by
    rw [List.mapM_cons, Sem.run_bind, h x (by simp)]
    simp only [Result.andThen_ok]
    rw [Sem.run_bind, run_mapM_list f g l (fun y hy => h y (by simp [hy]))]
    rfl
theorem run_mapM_array {P : Program} {α β : Type} {w : World} (f : α → Sem β) (g : α → β) (l : Array α) (h : ∀ x ∈ l, (f x).run P w = .ok (g x) w) : (l.mapM f).run P w = .ok (l.map g) w := by
  rw [Array.mapM_eq_mapM_toList, ← bind_pure_comp, Sem.run_bind, run_mapM_list (P := P) f g l.toList (fun x hx => h x (by simpa using hx))]
  simp only [Result.andThen_ok, Sem.run_pure]
  rw [← Array.toList_map, Array.toArray_toList]

/-- results -/
def resF (a : Act) : ResultVar → Sem Value
  | .tmp t => pure (a.tmps.getD t undef)
  | .cell t ty => do loadVar ty (← asAddr (a.tmps.getD t undef))
def resA (P : Program) (st : ASt) : ResultVar → AV → Prop
  | .tmp t, x => look .any st.regs t = x
  | .cell t ty, x => ∃ id cs e D z s b, look .any st.regs t = .box id 0 ∧ look .dead st.heap id = .box cs e ∧ P.underlying ty = some D ∧ tyI P ty = some (z, s, b) ∧ partA cs 0 s (aggB D) = some x
def resL (P : Program) (st : ASt) : List ResultVar → List AV → Prop
  | [], [] => True
  | r :: l, x :: xs => resA P st r x ∧ resL P st l xs
  | _, _ => False
def oneOf (xs : List AV) : AV := match xs with | [x] => x | xs => .tup xs
section
variable {P : Program} {K : Kn} {n : Nat} {st : ASt} {a : Act} {w : World} {G : Gh}
theorem run_resA (r : RelG K n st a w G) {rv : ResultVar} {x : AV} (h : resA P st rv x) : ∃ v, (resF a rv).run P w = .ok v w ∧ RelV w G x v := by
  cases rv with
  | tmp t =>
    have h : look AV.any st.regs t = x := h
    subst h
    exact ⟨_, rfl, r.regs t⟩
  | cell t ty =>
    obtain ⟨id, cs, e, D, z, s, b, h1, h2, h3, h4, h5⟩ := h
    obtain ⟨u, g1, g2⟩ := op_load_run r h1 h2 h3 h4 h5
    refine ⟨u, ?_, g2⟩
    exact g1
theorem run_results (r : RelG K n st a w G) : ∀ {rs : List ResultVar} {xs : List AV}, resL P st rs xs → ∃ vs : List Value, (rs.mapM (resF a)).run P w = .ok vs w ∧ vs.length = xs.length ∧ ∀ (i : Nat) (x : AV) (v : Value), xs[i]? = some x → vs[i]? = some v → RelV w G x v
  | [], [], _ => ⟨[], rfl, rfl, fun i x v h => by simp at h⟩
  | rv :: l, x :: xs, h => by
    obtain ⟨v, h1, h2⟩ := run_resA r h.1
    obtain ⟨vs, h3, h4, h5⟩ := run_results r h.2
    refine ⟨v :: vs, ?_, by simp [h4], fun i y u hy hu => ?_⟩
    · rw [List.mapM_cons, Sem.run_bind, h1]
      simp only [Result.andThen_ok]
      rw [Sem.run_bind, h3]
      rfl
    · cases i with
      | zero => simp at hy hu; subst hy; subst hu; exact h2
      | succ i => exact h5 i y u (by simpa using hy) (by simpa using hu)
theorem run_results' (r : RelG K n st a w G) {fn : Func} {xs : List AV} (h : resL P st fn.results.toList xs) : ∃ v, (results fn a.tmps).run P w = .ok v w ∧ RelV w G (oneOf xs) v := by
  obtain ⟨vs, h1, h2, h3⟩ := run_results r h
  unfold results
  rw [Sem.run_bind, Array.mapM_eq_mapM_toList, ← bind_pure_comp, Sem.run_bind]
  refine ⟨_, by
    rw [show (List.mapM _ fn.results.toList : Sem (List Value)) = fn.results.toList.mapM (resF a) from by congr 1, h1]
    rfl, ?_⟩
  split
  · rename_i hs
    match xs, vs, h2, hs with
    | [x], [v], _, _ => exact h3 0 x v rfl rfl
    | [], [v], h2, _ => simp at h2
    | _ :: _ :: _, [v], h2, _ => simp at h2
    | _, [], _, hs => simp at hs
    | _, _ :: _ :: _, _, hs => simp at hs
  · rename_i hs
    have hne : ∀ x, xs ≠ [x] := by
      intro x e
      subst e
      exact hs (by simpa using h2)
    have ho : oneOf xs = .tup xs := by
      unfold oneOf
      split
      · rename_i x; exact absurd rfl (hne x)
      · rfl
    rw [ho]
    exact .tup _ _ (by simpa using h2) (fun i x v hx hv => h3 i x v hx (by simpa using hv))
end

def callable (P : Program) (F : FuncId) : Bool := match P.funcs[F]? with | some fn => !(fn.name == "runtime.NumGoroutine") && fn.body.isSome | none => false
theorem run_callFunc' {P : Program} {F : FuncId} (h : callable P F = true) (args : Array Value) (w : World) : (callFunc F args).run P w = .ok (.enter F args) w := by
  unfold callable at h
  split at h
  · rename_i fn hf
    rw [Bool.and_eq_true] at h
    have h1 : (fn.name == "runtime.NumGoroutine") = false := by simpa using h.1
    have h2 : fn.body.isNone = false := by
      cases hb : fn.body with
      | none => rw [hb] at h; simp at h
      | some c => rfl
    simp only [callFunc, Sem.run_bind, run_program, Result.andThen_ok, hf]
    rw [if_neg (by rw [h1]; decide), if_neg (by rw [h2]; decide)]
    rfl
  · cases h
structure ArgsV (w : World) (G : Gh) (xs : List AV) (vs : Array Value) : Prop where
  size : vs.size = xs.length
  rel : ∀ (i : Nat) (x : AV) (v : Value), xs[i]? = some x → vs[i]? = some v → RelV w G x v
/-- a call at which the callee works on the caller's abstract memory -/
def AC (P : Program) (F : FuncId) (xs : List AV) (hp : List (Nat × AB)) (nx : Nat) (post : AV → List (Nat × AB) → Nat → Prop) : Prop :=
  ∀ w0 w G vs, HR w0 w G hp → G.nx = nx → ArgsV w G xs vs → Calls P F vs w fun e w' => ∃ v x hp' nx' G', e = .returned v ∧ post x hp' nx' ∧ G'.nx = nx' ∧ HR w0 w' G' hp' ∧ RelV w' G' x v ∧ Ext w G w' G'
section
variable {P : Program} {n : Nat} {st : ASt} {Q : Exit → ASt → Prop} {d : Option Nat} {ty : TypeId} {ps : String} {af : Array Edge} {g : Option (Nat × Bool)}
theorem list_ev {K : Kn} {a : Act} {w : World} {G : Gh} (r : RelG K n st a w G) (l : List Operand) (i : Nat) (x : AV) (v : Value) (hx : (l.map st.ev)[i]? = some x) (hv : (l.map a.eval)[i]? = some v) : RelV w G x v := by
  rw [List.getElem?_map] at hx hv
  cases h : l[i]? with
  | none => rw [h] at hx; cases hx
  | some o =>
    rw [h] at hx hv
    simp at hx hv
    subst hx; subst hv
    exact r.ev o
theorem RelV.fn' {w : World} {G : Gh} {f : FuncId} {cs : List AV} {v : Value} (h : RelV w G (.fn f cs) v) : ∃ us, v = .func (.func f) #[] us ∧ us.size = cs.length ∧ ∀ (i : Nat) (a : AV) (u : Value), cs[i]? = some a → us[i]? = some u → RelV w G a u := by
  cases h with
  | dat h => cases h
  | fn _ _ fs us hf hl h => subst hf; exact ⟨us, rfl, hl, h⟩
def callSt (st : ASt) (d : Option Nat) (x : AV) (hp : List (Nat × AB)) (nx : Nat) : ASt := (⟨st.regs, hp, nx⟩ : ASt).put d x
theorem AL.call' {ops : Array Oper} {l : List Oper} {o : Oper} {cal : Operand} {args : Array Operand} {ats : Array TypeId} {F : FuncId} {caps xs : List AV}
    (hw : ∀ (K : Kn) (a : Act) (w : World) (G : Gh), RelG K n st a w G → Region.wanted o (yielded ops a.tmps) = true)
    (ho : o.op = .call { callee := .value cal, args := args, argTypes := ats }) (hc : st.ev cal = .fn F caps) (hxs : args.toList.map st.ev ++ caps = xs) (hF : callable P F = true) (hd : dok o.dst n = true)
    (h : AC P F xs st.heap st.nx (fun x hp nx => AL P n ops Q l (callSt st o.dst x hp nx))) : AL P n ops Q (o :: l) st := .mk fun K a w ⟨G, r⟩ =>
  wpList_step fun K' hK' => by
    rw [if_pos (hw K a w G r)]
    subst hxs
    have e1 := r.ev cal
    rw [hc] at e1
    obtain ⟨us, e2, hl, hr⟩ := e1.fn'
    have hargs : ArgsV w G (args.toList.map st.ev ++ caps) (args.map a.eval ++ us) := by
      refine ⟨by simp [hl], fun i x v hx hv => ?_⟩
      by_cases hi : i < args.size
      · rw [List.getElem?_append_left (by simpa using hi)] at hx
        rw [Array.getElem?_append_left (by simpa using hi)] at hv
        refine list_ev r args.toList i x v hx ?_
        rw [List.getElem?_map, Array.getElem?_toList]
        rw [Array.getElem?_map] at hv
        exact hv
      · rw [List.getElem?_append_right (by simp; omega)] at hx
        rw [Array.getElem?_append_right (by simp; omega)] at hv
        exact hr _ x v hx (by simpa using hv)
    have hcall := h K.w0 w G _ r.hr r.nx hargs
    have hrun : (execOp a.eval o).run P w = .ok (.enter F (args.map a.eval ++ us)) w := by
      simp [execOp, ho, resolve, e2, Deferred.ofValue, invoke, run_callFunc' hF]
    unfold Oper.wp
    rw [hrun]
    refine hcall.mono fun e w' ⟨v, x, hp', nx', G', he, hpost, hnx, hHR, hRV, hExt⟩ => ?_
    subst he
    exact hK' _ _ (hpost K _ _ ⟨G', (r.turn nx' hnx hHR hExt).put (dok_lt hd) hRV⟩)
theorem AL.call {ops : Array Oper} {l : List Oper} {cal : Operand} {args : Array Operand} {ats : Array TypeId} {F : FuncId} {caps xs : List AV}
    (hc : st.ev cal = .fn F caps) (hxs : args.toList.map st.ev ++ caps = xs) (hF : callable P F = true) (hd : dok d n = true)
    (h : AC P F xs st.heap st.nx (fun x hp nx => AL P n ops Q l (callSt st d x hp nx))) : AL P n ops Q (⟨d, .call { callee := .value cal, args := args, argTypes := ats }, ty, ps, af, none⟩ :: l) st :=
  AL.call' (o := ⟨d, .call { callee := .value cal, args := args, argTypes := ats }, ty, ps, af, none⟩) (fun _ _ _ _ _ => rfl) rfl hc hxs hF hd h
theorem wanted_of {ops : Array Oper} {o : Oper} {dj : Nat} {want : Bool} (hg : gdst ops o = some (dj, want)) (hb : look .any st.regs dj = .bool want) (K : Kn) (a : Act) (w : World) (G : Gh) (r : RelG K n st a w G) : Region.wanted o (yielded ops a.tmps) = true := by
  unfold gdst at hg
  unfold Region.wanted
  cases hgd : o.guard with
  | none => rfl
  | some p =>
    obtain ⟨j, wt⟩ := p
    rw [hgd] at hg
    obtain ⟨d', hd', e⟩ := Option.map_eq_some_iff.1 hg
    injection e with e1 e2
    subst e1; subst e2
    simp [yielded_of r hd' hb]
theorem AL.callg {ops : Array Oper} {l : List Oper} {cal : Operand} {args : Array Operand} {ats : Array TypeId} {F : FuncId} {caps xs : List AV} {gd : Nat × Bool} {dj : Nat} {want : Bool}
    (hg : gdst ops ⟨d, .call { callee := .value cal, args := args, argTypes := ats }, ty, ps, af, some gd⟩ = some (dj, want)) (hb : look .any st.regs dj = .bool want)
    (hc : st.ev cal = .fn F caps) (hxs : args.toList.map st.ev ++ caps = xs) (hF : callable P F = true) (hd : dok d n = true)
    (h : AC P F xs st.heap st.nx (fun x hp nx => AL P n ops Q l (callSt st d x hp nx))) : AL P n ops Q (⟨d, .call { callee := .value cal, args := args, argTypes := ats }, ty, ps, af, some gd⟩ :: l) st :=
  AL.call' (o := ⟨d, .call { callee := .value cal, args := args, argTypes := ats }, ty, ps, af, some gd⟩) (wanted_of hg hb) rfl hc hxs hF hd h

/-- the registers at a function's entry -/
def argR (i : Nat) : List AV → List (Nat × AV)
  | [] => []
  | x :: l => (i, x) :: argR (i + 1) l
theorem look_argR (xs : List AV) : ∀ (i k : Nat), look .any (argR i xs) k = if i ≤ k then (xs[k - i]?).getD .any else .any := by
  induction xs with
  | nil => intro i k; simp [argR, look]
  | cons x l ih =>
    intro i k
    rw [argR, look_cons]
    by_cases e : i = k
    · subst e; simp
    · rw [if_neg e, ih]
      by_cases h : i ≤ k
      · rw [if_pos h, if_pos (by omega)]
        rw [show k - i = (k - (i + 1)) + 1 by omega]
        simp
      · rw [if_neg h, if_neg (by omega)]
def retQ (P : Program) (rs : List ResultVar) (post : AV → List (Nat × AB) → Nat → Prop) : Exit → ASt → Prop := fun e st => (e = .ret ∨ e = .normal) ∧ ∃ xs, resL P st rs xs ∧ post (oneOf xs) st.heap st.nx
theorem AC.body {F : FuncId} {fn : Func} {c : Code} {m : Nat} {xs : List AV} {hp : List (Nat × AB)} {nx : Nat} {post : AV → List (Nat × AB) → Nat → Prop} {rs : List ResultVar} (hf : P.funcs[F]? = some fn) (hb : fn.body = some c) (hm : fn.ntmps = m) (hrs : fn.results.toList = rs) (hle : Nat.ble xs.length m = true)
    (h : AW P m c (retQ P rs post) ⟨argR 0 xs, hp, nx⟩) : AC P F xs hp nx post := fun w0 w G vs hHR hnx hargs => by
  refine calls_of_wp hf hb ?_
  subst hrs
  have hsz := hargs.size
  have hle := Nat.le_of_ble_eq_true hle
  have hR : RelG ⟨w0, w, G⟩ m ⟨argR 0 xs, hp, nx⟩ { tmps := vs ++ Array.replicate (fn.ntmps - vs.size) undef, defers := [] } w G := by
    refine ⟨hnx, hHR, Ext.refl _ _, by simp; omega, rfl, fun k => ?_⟩
    show RelV w G (look .any (argR 0 xs) k) ((vs ++ Array.replicate (fn.ntmps - vs.size) undef).getD k undef)
    rw [look_argR, if_pos (Nat.zero_le _), Nat.sub_zero]
    cases hx : xs[k]? with
    | none => exact .dat (.any _)
    | some x =>
      have hk : k < vs.size := by rw [hsz]; exact (List.getElem?_eq_some_iff.1 hx).1
      have hv : vs[k]? = some vs[k] := Array.getElem?_eq_getElem hk
      rw [Array.getD_eq_getD_getElem?, Array.getElem?_append_left hk, hv]
      exact hargs.rel k x _ hx hv
  refine wp_mono (h ⟨w0, w, G⟩ _ w ⟨G, hR⟩) fun e a' w' ⟨st', ⟨he, ys, hres, hpost⟩, G', r'⟩ => ?_
  obtain ⟨v, h1, h2⟩ := run_results' (P := P) r' (fn := fn) hres
  have hfin : a'.defers = [] ∧ ∃ v, (results fn a'.tmps).run P w' = .ok v w' ∧ ∃ v' x hp' nx' G'', Ending.returned v = .returned v' ∧ post x hp' nx' ∧ G''.nx = nx' ∧ HR w0 w' G'' hp' ∧ RelV w' G'' x v' ∧ Ext w G w' G'' :=
    ⟨r'.defers, v, h1, v, _, _, _, G', rfl, hpost, r'.nx, r'.hr, h2, r'.ext⟩
  rcases he with rfl | rfl <;> exact hfin
end
end Go.Proofs.Ytnbmldnahacnlaa
