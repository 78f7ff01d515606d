/- Symbolic walks: the laws of the tactic, with states spelt out (a state is looked through faster so). No program in sight. -/
import Derived.Test.YtnbmldnahacnlaaSxK
namespace Go.Proofs.Ytnbmldnahacnlaa
open Go Go.RowKit

section
variable {P : Program} {n : Nat} {Q : Exit → ASt → Prop} {r r' : List (Nat × AV)} {h h' : List (Nat × AB)} {m m' : Nat} {ops : Array Oper} {l : List Oper} {k : Nat} {op : Op} {ty : TypeId} {ps : String} {af : Array Edge} {gd : Nat × Bool} {x : AV} {p : Prop} {TT : Tab} {st' : ASt} {o : Oper} {d : Option Nat}
theorem LL.sr (hT : TT.ok P) (hs : stepR TT ⟨r, h, m⟩ op = some (x, p)) (hd : Nat.blt k n = true) (hp : p) (c : AL P n ops Q l ⟨(k, x) :: r, h, m⟩) : AL P n ops Q (⟨some k, op, ty, ps, af, none⟩ :: l) ⟨r, h, m⟩ := AL.sr hT hs hd hp c
theorem LL.srg (hT : TT.ok P) (hg : gst ops ⟨some k, op, ty, ps, af, some gd⟩ ⟨r, h, m⟩ = some true) (hs : stepR TT ⟨r, h, m⟩ op = some (x, p)) (hd : Nat.blt k n = true) (hp : p) (c : AL P n ops Q l ⟨(k, x) :: r, h, m⟩) : AL P n ops Q (⟨some k, op, ty, ps, af, some gd⟩ :: l) ⟨r, h, m⟩ := AL.srg hT hg hs hd hp c
theorem LL.sk (hg : gst ops ⟨some k, op, ty, ps, af, some gd⟩ ⟨r, h, m⟩ = some false) (hd : Nat.blt k n = true) (c : AL P n ops Q l ⟨(k, .und) :: r, h, m⟩) : AL P n ops Q (⟨some k, op, ty, ps, af, some gd⟩ :: l) ⟨r, h, m⟩ := AL.sk hg hd c
theorem LL.sm (hT : TT.ok P) (hs : stepM TT ⟨r, h, m⟩ d op = some (st', p)) (he : st' = ⟨r', h', m'⟩) (hd : dok d n = true) (hp : p) (c : AL P n ops Q l ⟨r', h', m'⟩) : AL P n ops Q (⟨d, op, ty, ps, af, none⟩ :: l) ⟨r, h, m⟩ := by subst he; exact AL.sm hT hs hd hp c
theorem LL.smg (hT : TT.ok P) (hg : gst ops ⟨d, op, ty, ps, af, some gd⟩ ⟨r, h, m⟩ = some true) (hs : stepM TT ⟨r, h, m⟩ d op = some (st', p)) (he : st' = ⟨r', h', m'⟩) (hd : dok d n = true) (hp : p) (c : AL P n ops Q l ⟨r', h', m'⟩) : AL P n ops Q (⟨d, op, ty, ps, af, some gd⟩ :: l) ⟨r, h, m⟩ := by subst he; exact AL.smg hT hg hs hd hp c
theorem LL.opr (hs : OpR P n ⟨some k, op, ty, ps, af, none⟩ ⟨r, h, m⟩ x) (c : AL P n ops Q l ⟨(k, x) :: r, h, m⟩) : AL P n ops Q (⟨some k, op, ty, ps, af, none⟩ :: l) ⟨r, h, m⟩ := AL.opr rfl hs c
theorem LL.oprg (hg : gst ops ⟨some k, op, ty, ps, af, some gd⟩ ⟨r, h, m⟩ = some true) (hs : OpR P n ⟨some k, op, ty, ps, af, some gd⟩ ⟨r, h, m⟩ x) (c : AL P n ops Q l ⟨(k, x) :: r, h, m⟩) : AL P n ops Q (⟨some k, op, ty, ps, af, some gd⟩ :: l) ⟨r, h, m⟩ := by
  obtain ⟨_, want, h1, h2⟩ := gst_yes hg
  exact AL.oprg h1 h2 hs c
theorem LL.opm (hs : OpV P n ⟨d, op, ty, ps, af, none⟩ ⟨r, h, m⟩ st') (he : st' = ⟨r', h', m'⟩) (c : AL P n ops Q l ⟨r', h', m'⟩) : AL P n ops Q (⟨d, op, ty, ps, af, none⟩ :: l) ⟨r, h, m⟩ := by subst he; exact AL.op rfl hs c
/-! memory, spelt out -/
abbrev MO := Option (AV × List (Nat × AB) × Nat × Prop)
def withCellsL (v : AV) (k : List AV → MO) : MO := match v with
  | .agg cs => k cs
  | v => k [v]
theorem withCellsL_eq {v : AV} {k : List AV → MO} : withCellsL v k = k v.cells := by cases v <;> rfl
def makeL (T : Tab) (h : List (Nat × AB)) (m : Nat) (t : TypeId) (l c : AV) : MO := match lk T.und t, l, c with
  | some (.slice e), .int _ L, .int _ C => match lk T.inf e with
    | some (some z, sz, b) => bif allOne (z.cells.toList.map avOf) && Nat.beq (z.cells.toList.map avOf).length sz && Nat.blt 0 sz then
        some (.osl m L.toNat, (m, .row sz (List.replicate L.toNat (z.cells.toList.map avOf)) e) :: h, m + 1, C = L ∧ 0 ≤ L ∧ (b : Int) * L ≤ 281474976710656 ∧ L ≤ 9223372036854775807) else none
    | _ => none
  | _, _, _ => none
def litL (T : Tab) (st : ASt) (h : List (Nat × AB)) (m : Nat) (t : TypeId) (L : Nat) (parts : Array (Nat × Operand)) : MO := match lk T.und t with
  | some (.slice e) => match lk T.inf e with
    | some (some z, sz, _) => bif allOne (z.cells.toList.map avOf) && Nat.beq (z.cells.toList.map avOf).length sz && Nat.blt 0 sz && Nat.ble (L * sz) 16777216 then
        (match fillA (fun i => some (i * sz, sz)) (zerosA (z.cells.toList.map avOf) L) (evParts st parts.toList) with
        | some out => bif Nat.beq out.length (L * sz) then some (.osl m L, (m, .row sz (chunk sz L out) e) :: h, m + 1, True) else none
        | none => none) else none
    | _ => none
  | _ => none
def stepL (T : Tab) (r : List (Nat × AV)) (h : List (Nat × AB)) (m : Nat) : Op → MO
  | .alloc e => match lk T.inf e with
    | some (some z, _, _) => bif allOne (z.cells.toList.map avOf) then some (.box m 0, (m, .box (z.cells.toList.map avOf) e) :: h, m + 1, True) else none
    | _ => none
  | .box e x => withCellsL ((⟨r, h, m⟩ : ASt).ev x) fun c => bif allOne c then some (.box m 0, (m, .box c e) :: h, m + 1, True) else none
  | .makeSlice t l c => makeL T h m t ((⟨r, h, m⟩ : ASt).ev l) ((⟨r, h, m⟩ : ASt).ev c)
  | .buildSlice t L parts => litL T ⟨r, h, m⟩ h m t L parts
  | _ => none
theorem stepL_eq {r : List (Nat × AV)} {h h' : List (Nat × AB)} {m m' k : Nat} {op : Op} {x : AV} {p : Prop} {T : Tab} (hs : stepL T r h m op = some (x, h', m', p)) : stepM T ⟨r, h, m⟩ (some k) op = some (⟨(k, x) :: r, h', m'⟩, p) := by
  cases op <;> simp only [stepL] at hs <;> try (cases hs; done)
  case alloc e =>
    simp only [stepM]
    split at hs
    · rename_i z s b h1
      rw [h1]
      cases h2 : allOne (z.cells.toList.map avOf) with
      | false => rw [h2] at hs; cases hs
      | true =>
        rw [h2] at hs
        simp only [cond_true, Option.some.injEq, Prod.mk.injEq] at hs
        obtain ⟨rfl, rfl, rfl, rfl⟩ := hs
        simp only [h2, cond_true]
        rfl
    · cases hs
  case box e y =>
    rw [withCellsL_eq] at hs
    simp only [stepM, withCells_eq]
    cases h2 : allOne ((⟨r, h, m⟩ : ASt).ev y).cells with
    | false => rw [h2] at hs; cases hs
    | true =>
      rw [h2] at hs
      simp only [cond_true, Option.some.injEq, Prod.mk.injEq] at hs
      obtain ⟨rfl, rfl, rfl, rfl⟩ := hs
      rfl
  case makeSlice t ll c =>
    unfold makeL at hs
    simp only [stepM, makeM]
    split at hs
    · rename_i e kl L kc C h1 h2 h3
      rw [h1, h2, h3]
      simp only
      split at hs
      · rename_i z sz b h4
        rw [h4]
        cases h5 : (allOne (z.cells.toList.map avOf) && Nat.beq (z.cells.toList.map avOf).length sz && Nat.blt 0 sz) with
        | false => rw [h5] at hs; cases hs
        | true =>
          rw [h5] at hs
          simp only [cond_true, Option.some.injEq, Prod.mk.injEq] at hs
          obtain ⟨rfl, rfl, rfl, rfl⟩ := hs
          simp only [h5, cond_true]
          rfl
      · cases hs
    · cases hs
  case buildSlice t L parts =>
    unfold litL at hs
    simp only [stepM, litM]
    split at hs
    · rename_i e h1
      rw [h1]
      simp only
      split at hs
      · rename_i z sz b h4
        rw [h4]
        simp only
        cases h5 : (allOne (z.cells.toList.map avOf) && Nat.beq (z.cells.toList.map avOf).length sz && Nat.blt 0 sz && Nat.ble (L * sz) 16777216) with
        | false => rw [h5] at hs; cases hs
        | true =>
          rw [h5] at hs
          simp only [cond_true] at hs ⊢
          split at hs
          · rename_i out h6
            rw [h6]
            simp only
            cases h7 : Nat.beq out.length (L * sz) with
            | false => rw [h7] at hs; cases hs
            | true =>
              rw [h7] at hs
              simp only [cond_true, Option.some.injEq, Prod.mk.injEq] at hs
              obtain ⟨rfl, rfl, rfl, rfl⟩ := hs
              rfl
          · cases hs
      · cases hs
    · cases hs
theorem LL.mk (hT : TT.ok P) (hs : stepL TT r h m op = some (x, h', m', p)) (hd : Nat.blt k n = true) (hp : p) (c : AL P n ops Q l ⟨(k, x) :: r, h', m'⟩) : AL P n ops Q (⟨some k, op, ty, ps, af, none⟩ :: l) ⟨r, h, m⟩ := AL.sm hT (stepL_eq hs) hd hp c
theorem LL.mkg (hT : TT.ok P) (hg : gst ops ⟨some k, op, ty, ps, af, some gd⟩ ⟨r, h, m⟩ = some true) (hs : stepL TT r h m op = some (x, h', m', p)) (hd : Nat.blt k n = true) (hp : p) (c : AL P n ops Q l ⟨(k, x) :: r, h', m'⟩) : AL P n ops Q (⟨some k, op, ty, ps, af, some gd⟩ :: l) ⟨r, h, m⟩ := AL.smg hT hg (stepL_eq hs) hd hp c
def storeL (T : Tab) (h : List (Nat × AB)) (t : TypeId) (a v : AV) : Option (List (Nat × AB)) := match a, lk T.inf t with
  | .box id o, some (_, s, _) => match look .dead h id with
    | .box cs e => match v with
      | .agg vs => bif allOne vs && Nat.beq vs.length s && Nat.ble (o + s) cs.length then some ((id, .box (setR cs o vs) e) :: h) else none
      | v => bif allOne [v] && Nat.beq 1 s && Nat.ble (o + s) cs.length then some ((id, .box (setR cs o [v]) e) :: h) else none
    | _ => none
  | _, _ => none
theorem storeL_eq {r : List (Nat × AV)} {h h' : List (Nat × AB)} {m : Nat} {t : TypeId} {a v : Operand} {T : Tab} (hs : storeL T h t ((⟨r, h, m⟩ : ASt).ev a) ((⟨r, h, m⟩ : ASt).ev v) = some h') : stepM T ⟨r, h, m⟩ none (.store t a v) = some (⟨r, h', m⟩, True) := by
  unfold storeL at hs
  simp only [stepM, storeM]
  split at hs
  · rename_i id oo q s b h1 h2
    rw [h1, h2]
    simp only
    split at hs
    · rename_i cs e h3
      rw [h3]
      simp only [withCells_eq]
      generalize ((⟨r, h, m⟩ : ASt).ev v) = w at *
      have key : ∀ vs : List AV, w.cells = vs → (bif allOne vs && Nat.beq vs.length s && Nat.ble (oo + s) cs.length then some ((id, AB.box (setR cs oo vs) e) :: h) else none) = some h' → (bif allOne w.cells && Nat.beq w.cells.length s && Nat.ble (oo + s) cs.length then some ((⟨r, h, m⟩ : ASt).hset id (.box (setR cs oo w.cells) e), True) else none) = some (⟨r, h', m⟩, True) := by
        intro vs hv hk
        rw [hv]
        cases h4 : (allOne vs && Nat.beq vs.length s && Nat.ble (oo + s) cs.length) with
        | false => rw [h4] at hk; cases hk
        | true =>
          rw [h4] at hk
          simp only [cond_true] at hk ⊢
          injection hk with hk
          subst hk
          rfl
      cases w <;> first | exact key _ rfl hs
    · cases hs
  · cases hs
theorem LL.st {t : TypeId} {a v : Operand} (hT : TT.ok P) (hs : storeL TT h t ((⟨r, h, m⟩ : ASt).ev a) ((⟨r, h, m⟩ : ASt).ev v) = some h') (c : AL P n ops Q l ⟨r, h', m⟩) : AL P n ops Q (⟨none, .store t a v, ty, ps, af, none⟩ :: l) ⟨r, h, m⟩ := AL.sm hT (storeL_eq hs) rfl trivial c
/-- elements written, rows grown -/
theorem LL.ste {t : TypeId} {z : Option Value} {s b : Nat} {id q i o sz : Nat} {rows rows' : List (List AV)} {e : TypeId} {row vs : List AV} {y z' : Operand} (hx : (⟨r, h, m⟩ : ASt).ev y = .elt id q i o) (hb : look .dead h id = .row sz rows e) (hm : q = rows.length) (hr : rows[i]? = some row) (hy : ((⟨r, h, m⟩ : ASt).ev z').cells = vs) (h1 : allOne vs = true) (hI : tyI P t = some (z, s, b)) (hs : vs.length = s) (hle : Nat.ble (o + s) sz = true) (hrr : rows.set i (setR row o vs) = rows')
    (c : AL P n ops Q l ⟨r, (id, .row sz rows' e) :: h, m⟩) : AL P n ops Q (⟨none, .store t y z', ty, ps, af, none⟩ :: l) ⟨r, h, m⟩ := AL.op rfl (op_store_own hx hb hm hr hy h1 hI hs hle hrr) c
theorem LL.app {t e : TypeId} {z : Value} {sz b id q L : Nat} {e' : TypeId} {rows new rows' : List (List AV)} {xv : AV} {y z' : Operand} (hx : (⟨r, h, m⟩ : ASt).ev y = .osl id q) (hb : look .dead h id = .row sz rows e') (he : e' = e) (hm : q = rows.length) (hy : (⟨r, h, m⟩ : ASt).ev z' = xv) (hs : SrcA h sz xv new)
    (hT : P.underlying t = some (.slice e)) (hI : tyI P e = some (some z, sz, b)) (hz : z.cells.size = sz) (hrr : rows ++ new = rows') (hL : rows'.length = L) (h63 : L * (b + 1) ≤ 140737488355328) (hd : Nat.blt k n = true)
    (c : AL P n ops Q l ⟨(k, .osl id L) :: r, (id, .row sz rows' e) :: h, m⟩) : AL P n ops Q (⟨some k, .call { callee := .builtin .append, args := #[y, z'], argTypes := #[t, t] }, ty, ps, af, none⟩ :: l) ⟨r, h, m⟩ := AL.op rfl (op_app (d := some k) hx hb he hm hy hs hT hI hz hrr hL h63 hd) c
theorem LL.appn {t e : TypeId} {z : Value} {sz b L : Nat} {new : List (List AV)} {xv : AV} {y z' : Operand} (hx : (⟨r, h, m⟩ : ASt).ev y = .nils) (hy : (⟨r, h, m⟩ : ASt).ev z' = xv) (hs : SrcA h sz xv new)
    (hT : P.underlying t = some (.slice e)) (hI : tyI P e = some (some z, sz, b)) (h0 : 0 < sz) (hz : z.cells.size = sz) (hL : new.length = L) (h63 : L * (b + 1) ≤ 140737488355328) (hd : Nat.blt k n = true)
    (c : AL P n ops Q l ⟨(k, .osl m L) :: r, (m, .row sz new e) :: h, m + 1⟩) : AL P n ops Q (⟨some k, .call { callee := .builtin .append, args := #[y, z'], argTypes := #[t, t] }, ty, ps, af, none⟩ :: l) ⟨r, h, m⟩ := by
  subst hL
  exact AL.op rfl (op_append_nil (d := some k) hx hy hs hT hI h0 hz h63 hd) c
variable {cal : Operand} {args : Array Operand} {ats : Array TypeId} {F : FuncId} {caps xs0 xs xs' : List AV} {y : AV}
theorem LL.cf (hc : (⟨r, h, m⟩ : ASt).ev cal = .fn F caps) (hxs : EvL ⟨r, h, m⟩ args.toList xs0) (hca : xs0 ++ caps = xs) (hF : callable P F = true) (hd : Nat.blt k n = true) (hfz : FrzL h xs xs') (hAF : AF P F xs' y) (c : AL P n ops Q l ⟨(k, y) :: r, h, m⟩) :
    AL P n ops Q (⟨some k, .call { callee := .value cal, args := args, argTypes := ats }, ty, ps, af, none⟩ :: l) ⟨r, h, m⟩ := AL.cfc hc hxs hca hF hd hfz hAF c
theorem LL.cfg (hg : gst ops ⟨some k, .call { callee := .value cal, args := args, argTypes := ats }, ty, ps, af, some gd⟩ ⟨r, h, m⟩ = some true) (hc : (⟨r, h, m⟩ : ASt).ev cal = .fn F caps) (hxs : EvL ⟨r, h, m⟩ args.toList xs0) (hca : xs0 ++ caps = xs) (hF : callable P F = true) (hd : Nat.blt k n = true) (hfz : FrzL h xs xs') (hAF : AF P F xs' y) (c : AL P n ops Q l ⟨(k, y) :: r, h, m⟩) :
    AL P n ops Q (⟨some k, .call { callee := .value cal, args := args, argTypes := ats }, ty, ps, af, some gd⟩ :: l) ⟨r, h, m⟩ := AL.cfcg hg hc hxs hca hF hd hfz hAF c
theorem LL.spP {pp : Prop} {inst : Decidable pp} {dj : Nat} {want : Bool} (hg : gdst ops ⟨d, op, ty, ps, af, some gd⟩ = some (dj, want)) (hb : look .any r dj = .bool (decide pp)) (h1 : pp → AL P n ops Q (⟨d, op, ty, ps, af, some gd⟩ :: l) ⟨(dj, .bool true) :: r, h, m⟩) (h2 : ¬ pp → AL P n ops Q (⟨d, op, ty, ps, af, some gd⟩ :: l) ⟨(dj, .bool false) :: r, h, m⟩) : AL P n ops Q (⟨d, op, ty, ps, af, some gd⟩ :: l) ⟨r, h, m⟩ := AL.spP hg hb h1 h2
theorem LL.spB {b : Bool} {dj : Nat} {want : Bool} (hg : gdst ops ⟨d, op, ty, ps, af, some gd⟩ = some (dj, want)) (hb : look .any r dj = .bool b) (h1 : b = true → AL P n ops Q (⟨d, op, ty, ps, af, some gd⟩ :: l) ⟨(dj, .bool true) :: r, h, m⟩) (h2 : b = false → AL P n ops Q (⟨d, op, ty, ps, af, some gd⟩ :: l) ⟨(dj, .bool false) :: r, h, m⟩) : AL P n ops Q (⟨d, op, ty, ps, af, some gd⟩ :: l) ⟨r, h, m⟩ := AL.spB hg hb h1 h2
theorem LW.drawQ {id : Nat} {q : Nat} {l1 l2 : List Oper} (hm : P.follows .mixedOrders = true) (hk : planOk l.toArray n = true) (hc : cutW 0 l = q) (h1 : l.take q = l1) (h2 : l.drop q = l2) (htail : tailOk' (ancs l []) q (l.drop q) = true)
    (c : AG P n l.toArray (ancs l []) m (fun s => AL P n l.toArray Q l2 s) 0 [] l1 ⟨r, h, m⟩) : AW P n (.region id l.toArray true) Q ⟨r, h, m⟩ := AW.drawQ hm hk hc h1 h2 htail c
variable {T : List (List Nat)} {nx0 i : Nat} {cr : List (Nat × Nat)} {Kt : ASt → Prop}
theorem LG.sr (hT : TT.ok P) (hs : stepR TT ⟨r, h, m⟩ op = some (x, p)) (hd : Nat.blt k n = true) (hp : p) (hv : (h.all fun p => vis T nx0 i cr p.1) = true) (hn : x.nmd (vis T nx0 i cr) = true) (c : AG P n ops T nx0 Kt (i + 1) cr l ⟨(k, x) :: r, h, m⟩) : AG P n ops T nx0 Kt i cr (⟨some k, op, ty, ps, af, none⟩ :: l) ⟨r, h, m⟩ := AG.sr hT hv hs hd hp hn c
theorem LG.srg (hT : TT.ok P) (hg : gst ops ⟨some k, op, ty, ps, af, some gd⟩ ⟨r, h, m⟩ = some true) (hs : stepR TT ⟨r, h, m⟩ op = some (x, p)) (hd : Nat.blt k n = true) (hp : p) (hv : (h.all fun p => vis T nx0 i cr p.1) = true) (hn : x.nmd (vis T nx0 i cr) = true) (c : AG P n ops T nx0 Kt (i + 1) cr l ⟨(k, x) :: r, h, m⟩) : AG P n ops T nx0 Kt i cr (⟨some k, op, ty, ps, af, some gd⟩ :: l) ⟨r, h, m⟩ := AG.srg hT hg hv hs hd hp hn c
theorem LG.sk (hg : gst ops ⟨some k, op, ty, ps, af, some gd⟩ ⟨r, h, m⟩ = some false) (hv : (h.all fun p => vis T nx0 i cr p.1) = true) (hd : Nat.blt k n = true) (c : AG P n ops T nx0 Kt (i + 1) cr l ⟨(k, .und) :: r, h, m⟩) : AG P n ops T nx0 Kt i cr (⟨some k, op, ty, ps, af, some gd⟩ :: l) ⟨r, h, m⟩ := AG.sk hg hv hd c
theorem LG.sb {b : AB} (hT : TT.ok P) (hs : stepB TT ⟨r, h, m⟩ op = some (b, p)) (hd : Nat.blt k n = true) (hp : p) (hv : (h.all fun p => vis T nx0 i cr p.1) = true) (hn : b.nmd (vis T nx0 i cr) = true) (c : AG P n ops T nx0 Kt (i + 1) ((i, m) :: cr) l ⟨(k, refB b m) :: r, (m, b) :: h, m + 1⟩) : AG P n ops T nx0 Kt i cr (⟨some k, op, ty, ps, af, none⟩ :: l) ⟨r, h, m⟩ := AG.sb hT hv hs hd hp hn c
theorem LG.alloc {e : TypeId} {z : Value} {s b : Nat} (hI : tyI P e = some (some z, s, b)) (h1 : allOne (z.cells.toList.map avOf) = true) (hd : Nat.blt k n = true) (hn : (AB.box (z.cells.toList.map avOf) e).nmd (vis T nx0 i cr) = true) (c : AG P n ops T nx0 Kt (i + 1) ((i, m) :: cr) l ⟨(k, .box m 0) :: r, (m, .box (z.cells.toList.map avOf) e) :: h, m + 1⟩) : AG P n ops T nx0 Kt i cr (⟨some k, .alloc e, ty, ps, af, none⟩ :: l) ⟨r, h, m⟩ := AG.alloc hI h1 hd hn c
theorem LG.opr (hs : ∀ q, OpR P n ⟨some k, op, ty, ps, af, none⟩ (lclS ops ⟨r, h, m⟩ ⟨some k, op, ty, ps, af, none⟩ q) x) (hv : (h.all fun p => vis T nx0 i cr p.1) = true) (hn : x.nmd (vis T nx0 i cr) = true) (c : AG P n ops T nx0 Kt (i + 1) cr l ⟨(k, x) :: r, h, m⟩) : AG P n ops T nx0 Kt i cr (⟨some k, op, ty, ps, af, none⟩ :: l) ⟨r, h, m⟩ := AG.opr rfl hv hs hn c
theorem LG.oprg (hg : gst ops ⟨some k, op, ty, ps, af, some gd⟩ ⟨r, h, m⟩ = some true) (hs : ∀ q, OpR P n ⟨some k, op, ty, ps, af, some gd⟩ (lclS ops ⟨r, h, m⟩ ⟨some k, op, ty, ps, af, some gd⟩ q) x) (hv : (h.all fun p => vis T nx0 i cr p.1) = true) (hn : x.nmd (vis T nx0 i cr) = true) (c : AG P n ops T nx0 Kt (i + 1) cr l ⟨(k, x) :: r, h, m⟩) : AG P n ops T nx0 Kt i cr (⟨some k, op, ty, ps, af, some gd⟩ :: l) ⟨r, h, m⟩ := AG.oprg hg hv hs hn c
theorem LG.cf (hc : (⟨r, h, m⟩ : ASt).ev cal = .fn F caps) (hxs : EvL ⟨r, h, m⟩ args.toList xs0) (hca : xs0 ++ caps = xs) (hF : callable P F = true) (hd : Nat.blt k n = true) (hfz : FrzL h xs xs') (hAF : AF P F xs' y) (hv : (h.all fun p => vis T nx0 i cr p.1) = true) (hn : y.nmd (vis T nx0 i cr) = true) (c : AG P n ops T nx0 Kt (i + 1) cr l ⟨(k, y) :: r, h, m⟩) :
    AG P n ops T nx0 Kt i cr (⟨some k, .call { callee := .value cal, args := args, argTypes := ats }, ty, ps, af, none⟩ :: l) ⟨r, h, m⟩ := AG.cf hc hxs hca hF hd hfz hAF hv hn c
theorem LG.cfg (hg : gst ops ⟨some k, .call { callee := .value cal, args := args, argTypes := ats }, ty, ps, af, some gd⟩ ⟨r, h, m⟩ = some true) (hc : (⟨r, h, m⟩ : ASt).ev cal = .fn F caps) (hxs : EvL ⟨r, h, m⟩ args.toList xs0) (hca : xs0 ++ caps = xs) (hF : callable P F = true) (hd : Nat.blt k n = true) (hfz : FrzL h xs xs') (hAF : AF P F xs' y) (hv : (h.all fun p => vis T nx0 i cr p.1) = true) (hn : y.nmd (vis T nx0 i cr) = true) (c : AG P n ops T nx0 Kt (i + 1) cr l ⟨(k, y) :: r, h, m⟩) :
    AG P n ops T nx0 Kt i cr (⟨some k, .call { callee := .value cal, args := args, argTypes := ats }, ty, ps, af, some gd⟩ :: l) ⟨r, h, m⟩ := AG.cfg hg hc hxs hca hF hd hfz hAF hv hn c
theorem LG.spP {pp : Prop} {inst : Decidable pp} {dj : Nat} {want : Bool} (hg : gdst ops ⟨d, op, ty, ps, af, some gd⟩ = some (dj, want)) (hb : look .any r dj = .bool (decide pp)) (h1 : pp → AG P n ops T nx0 Kt i cr (⟨d, op, ty, ps, af, some gd⟩ :: l) ⟨(dj, .bool true) :: r, h, m⟩) (h2 : ¬ pp → AG P n ops T nx0 Kt i cr (⟨d, op, ty, ps, af, some gd⟩ :: l) ⟨(dj, .bool false) :: r, h, m⟩) : AG P n ops T nx0 Kt i cr (⟨d, op, ty, ps, af, some gd⟩ :: l) ⟨r, h, m⟩ := AG.spP hg hb h1 h2
theorem LG.spB {b : Bool} {dj : Nat} {want : Bool} (hg : gdst ops ⟨d, op, ty, ps, af, some gd⟩ = some (dj, want)) (hb : look .any r dj = .bool b) (h1 : b = true → AG P n ops T nx0 Kt i cr (⟨d, op, ty, ps, af, some gd⟩ :: l) ⟨(dj, .bool true) :: r, h, m⟩) (h2 : b = false → AG P n ops T nx0 Kt i cr (⟨d, op, ty, ps, af, some gd⟩ :: l) ⟨(dj, .bool false) :: r, h, m⟩) : AG P n ops T nx0 Kt i cr (⟨d, op, ty, ps, af, some gd⟩ :: l) ⟨r, h, m⟩ := AG.spB hg hb h1 h2
end
/-- a function's body, its arguments spelt out -/
theorem AC.bodyL {P : Program} {F : FuncId} {fn : Func} {c : Code} {m : Nat} {xs : List AV} {r : List (Nat × AV)} {hp : List (Nat × AB)} {nx : Nat} {post : AV → List (Nat × AB) → Nat → Prop} {rs : List ResultVar} (hf : P.funcs[F]? = some fn) (hb : fn.body = some c) (hm : fn.ntmps = m) (hrs : fn.results.toList = rs) (hle : Nat.ble xs.length m = true) (hr : argR 0 xs = r)
    (h : AW P m c (retQ P rs post) ⟨r, hp, nx⟩) : AC P F xs hp nx post := AC.body hf hb hm hrs hle (by rw [hr]; exact h)
end Go.Proofs.Ytnbmldnahacnlaa
