/- Decompiling: one function for the operations that read. No program in sight. -/
import Derived.Test.YtedjnjgnadbkaaaZPP2
/- Decompiling: one function for the operations that read. No program in sight. -/
namespace Go.Proofs.Ytedjnjgnadbkaaa
open Go Go.RowKit

section
variable {V : Ty → Type}
def loadS (T : Tab) (st : SSt V) (t : TypeId) : SV V → Option (SV V)
  | .box id o => match st.blk id, lk T.und t, lk T.inf t with
    | .box cs _, some D, some (_, s, _) => partS cs o s (aggB D)
    | _, _, _ => none
  | .pk fr ty e o => match lk T.und t, lk T.inf t with
    | some D, some (_, s, _) => partS (cellsE fr ty e) o s (aggB D)
    | _, _ => none
  | .elt id ver i o => match st.blk id, lk T.und t, lk T.inf t with
    | .row fr ty xs _ v, some D, some (_, s, _) => bif Nat.beq ver v then partS (cellsE fr ty (.at xs i)) o s (aggB D) else none
    | _, _, _ => none
  | _ => none
def fldS (T : Tab) (st : SSt V) (t : TypeId) (f : Nat) (x : SV V) : Option (SV V) := match lk T.fld t with
  | some fl => match fl[f]? with
    | some (off, s, _) => bif Nat.beq s 0 then none else (match x with
      | .box id o => match st.blk id with
        | .box .. => some (.box id (o + off))
        | _ => none
      | .pk fr ty e o => some (.pk fr ty e (o + off))
      | .elt id ver i o => match st.blk id with
        | .row _ _ _ _ v => bif Nat.beq ver v then some (.elt id ver i (o + off)) else none
        | _ => none
      | _ => none)
    | none => none
  | none => none
def idxS (T : Tab) (st : SSt V) (t : TypeId) (x y : SV V) : RS V := match y, lk T.und t with
  | .int _ i, some (.slice e) => match lk T.inf e with
    | some (_, sz, _) => match x with
      | .ro fr ty xs => bif Nat.beq sz ty.size && Nat.blt 0 sz then some (.pk fr ty (.at xs i) 0, inr i xs) else none
      | .osl id ver => match st.blk id with
        | .row _ ty xs _ v => bif Nat.beq ver v && Nat.beq sz ty.size then some (.elt id ver i 0, inr i xs) else none
        | _ => none
      | _ => none
    | none => none
  | _, _ => none
def lenS (T : Tab) (st : SSt V) (t : TypeId) (x : SV V) : Option (SV V) := match lk T.und t with
  | some (.slice _) => match x with
    | .ro _ _ xs => some (.int .i64 (.len xs))
    | .osl id ver => match st.blk id with
      | .row _ _ xs _ v => bif Nat.beq ver v then some (.int .i64 (.len xs)) else none
      | _ => none
    | .nils => some (.int .i64 (.iL .i64 0))
    | _ => none
  | some .string => match x with
    | .str s => some (.int .i64 (.sLen s))
    | _ => none
  | _ => none
/-- numbers of an array value as a list -/
def intsL {k : IntKind} : List (E V (.int k)) → E V (.list (.int k))
  | [] => .nil _
  | a :: l => .cons a (intsL l)
def hdK : List (SV V) → Option IntKind
  | .int k _ :: _ => some k
  | _ => none
def elemS (T : Tab) (t : TypeId) (x y : SV V) : RS V := match y, lk T.und t with
  | .int k i, some (.array L e) => match x, lk T.und e, lk T.inf e with
    | .agg cs, some D, some (_, s, _) => match i with
      | .iL _ c => bif decide (0 ≤ c) && decide (c < (L : Int)) then (match partS cs (c.toNat * s) s (aggB D) with
        | some v => some (v, okT)
        | none => none) else none
      | i => bif Nat.beq s 1 && (!aggB D) && Nat.beq cs.length L then (match hdK cs with
        | some k' => match intsS k' cs with
          | some es => some (.int k' (.at (intsL es) i), .bb .and (.ic .le (.iL k 0) i) (.ic .lt i (.iL .i64 L)))
          | none => none
        | none => none) else none
    | _, _, _ => none
  | .int _ i, some .string => match x with
    | .str s => some (.int .u8 (.sAt s i), inrS i s)
    | _ => none
  | _, _ => none
def minS (o : IB) : SV V → SV V → RS V
  | .int k a, .int k' b => if h : k' = k then some (.int k (.ib o a (h ▸ b)), okT) else none
  | _, _ => none
def buildS (T : Tab) (st : SSt V) (t : TypeId) (parts : List (Nat × Operand)) : Option (SV V) := match lk T.inf t, lk T.fld t with
  | some (some z, _, _), some fl => bif allOne (z.cells.toList.map avOf) then (match fillS st (placeS fl) (zeroS z) (evPartsS st parts) with
    | some out => some (.agg out)
    | none => none) else none
  | _, _ => none
def pickS (c a b : SV V) : Option (SV V) := match c with
  | .bool (.bL true) => some a
  | .bool (.bL false) => some b
  | .bool c => match a, b with
    | .bool x, .bool y => some (.bool (iteB c x y))
    | .int k x, .int k' y => if h : k' = k then some (.int k (.ite c x (h ▸ y))) else none
    | _, _ => none
  | _ => none
def convS (T : Tab) (st : SSt V) (t t' : TypeId) (x : SV V) : Option (SV V) := match x, lk T.und t, lk T.und t' with
  | .int _ e, some _, some (.int k') => some (.int k' (.wrap k' e))
  | .ro _ (.int .u8) xs, some (.slice e), some .string => match lk T.und e with
    | some (.int .u8) => some (.str (.ofB xs))
    | _ => none
  | .osl id ver, some (.slice e), some .string => match lk T.und e, st.blk id with
    | some (.int .u8), .row _ (.int .u8) xs _ v => bif Nat.beq ver v then some (.str (.ofB xs)) else none
    | _, _ => none
  | .vsl id ver lo hi, some (.slice e), some .string => match lk T.und e, st.blk id with
    | some (.int .u8), .row _ (.int .u8) xs _ v => bif Nat.beq ver v then some (.str (.ofB (.sub xs lo hi))) else none
    | _, _ => none
  | _, _, _ => none
/-- what an operation that reads yields, and what it asks for -/
def rd0 (T : Tab) (st : SSt V) : Op → RS V
  | .move x | .assign x => some (st.ev x, okT)
  | .pick c a b => (pickS (st.ev c) (st.ev a) (st.ev b)).map fun v => (v, okT)
  | .binOp op t x y _ => binS T op t (st.ev x) (st.ev y)
  | .unOp .not _ x => match st.ev x with
    | .bool b => some (.bool (notE b), okT)
    | _ => none
  | .unOp .neg _ x => match st.ev x with
    | .int k a => some (.int k (.wrap k (.neg a)), okT)
    | _ => none
  | .convert t t' x => (convS T st t t' (st.ev x)).map fun v => (v, okT)
  | .extract x i => match st.ev x with
    | .tup vs => (vs[i]?).map fun v => (v, okT)
    | _ => none
  | .fieldAddr t x f => (fldS T st t f (st.ev x)).map fun v => (v, okT)
  | .nilCheck x => match st.ev x with
    | .box id o => match st.blk id with
      | .box .. => some (.box id o, okT)
      | _ => none
    | .pk fr ty e o => some (.pk fr ty e o, okT)
    | .elt id ver i o => match st.blk id with
      | .row _ _ _ _ v => bif Nat.beq ver v then some (.elt id ver i o, okT) else none
      | _ => none
    | _ => none
  | .field t x f => match st.ev x, lk T.fld t with
    | .agg cs, some fl => match fl[f]? with
      | some (off, s, b) => (partS cs off s b).map fun v => (v, okT)
      | none => none
    | _, _ => none
  | .load t x => (loadS T st t (st.ev x)).map fun v => (v, okT)
  | .build t parts => (buildS T st t parts.toList).map fun v => (v, okT)
  | .makeFunc (.func F) ⟨[]⟩ caps => some (.fn F (evS st caps.toList), okT)
  | .call ⟨.builtin .len, ⟨[x]⟩, ⟨[t]⟩⟩ => (lenS T st t (st.ev x)).map fun v => (v, okT)
  | .call ⟨.builtin .min, ⟨[x, y]⟩, _⟩ => minS .min (st.ev x) (st.ev y)
  | .call ⟨.builtin .max, ⟨[x, y]⟩, _⟩ => minS .max (st.ev x) (st.ev y)
  | .indexAddr t x y => idxS T st t (st.ev x) (st.ev y)
  | .index t x y => elemS T t (st.ev x) (st.ev y)
  | _ => none
/-! slices, strings joined, arrays in boxes -/
def E.zero? {k : IntKind} (e : E V (.int k)) : Bool := match e with
  | .iL _ n => decide (n = 0)
  | _ => false
/-- the bound of a slice -/
def bndE (dflt : E V (.int .i64)) : Option (SV V) → Option (Sigma fun k => E V (.int k))
  | none => some ⟨.i64, dflt⟩
  | some (.int k e) => some ⟨k, e⟩
  | some _ => none
def leF {k k' : IntKind} (a : E V (.int k)) (b : E V (.int k')) : E V .bool := match a with
  | .iL _ n => (match b with
    | .iL _ m => .bL (decide (n ≤ m))
    | _ => .ic .le a b)
  | _ => .ic .le a b
def bndG {k k' : IntKind} (l : E V (.int k)) (h : E V (.int k')) (n : E V (.int .i64)) (all : Bool) : E V .bool := andE (leF (.iL .i64 0) l) (andE (leF l h) (bif all then okT else leF h n))
def sliceS (T : Tab) (t : TypeId) (x : SV V) (lo hi : Option (SV V)) : RS V := match lk T.und t with
  | some (.slice e) => match x, lk T.inf e with
    | .ro fr ty xs, some (_, sz, _) => match bndE (.iL .i64 0) lo, bndE (.len xs) hi with
      | some ⟨_, l⟩, some ⟨_, h⟩ => bif Nat.beq sz ty.size then some (.ro fr ty (.sub xs l h), bndG l h (.len xs) hi.isNone) else none
      | _, _ => none
    | _, _ => none
  | some .string => match x with
    | .str s => match bndE (.iL .i64 0) lo, bndE (.sLen s) hi with
      | some ⟨_, l⟩, some ⟨_, h⟩ => some (.str (.sSub s l h), bndG l h (.sLen s) hi.isNone)
      | _, _ => none
    | _ => none
  | _ => none
def catS : SV V → SV V → RS V
  | .str a, .str b => some (.str (.sCat a b), leF (.ib .add (.sLen a) (.sLen b)) (.iL .i64 9223372036854775807))
  | _, _ => none
def ltL {k : IntKind} (a : E V (.int k)) (L : Nat) : E V .bool := match a with
  | .iL _ n => .bL (decide (n < (L : Int)))
  | _ => .ic .lt a (.iL .i64 L)
def idxA (T : Tab) (st : SSt V) (t : TypeId) (x y : SV V) : RS V := match y, lk T.und t with
  | .int _ j, some (.array L e) => match lk T.inf e, x with
    | some (_, sz, _), .elt id ver i o => match st.blk id with
      | .row _ ty xs _ v => bif Nat.beq ver v && i.zero? && Nat.beq o 0 && Nat.beq sz ty.size then some (.elt id ver j 0, andE (inr j xs) (ltL j L)) else none
      | _ => none
    | _, _ => none
  | _, _ => none
def cellsN (fr : Bool) (ty : Ty) (xs : E V (.list ty)) : Nat → Nat → List (SV V)
  | 0, _ => []
  | n + 1, k => cellsE fr ty (.at xs (.iL .i64 k)) ++ cellsN fr ty xs n (k + 1)
def loadA (T : Tab) (st : SSt V) (t : TypeId) (x : SV V) : RS V := match lk T.und t with
  | some (.array L _) => match lk T.inf t, x with
    | some (_, s, _), .elt id ver i o => match st.blk id with
      | .row fr ty xs _ v => bif Nat.beq ver v && i.zero? && Nat.beq o 0 && Nat.beq s (L * ty.size) && Nat.blt 0 L then some (.agg (cellsN fr ty xs L 0), .ic .eq (.len xs) (.iL .i64 L)) else none
      | _ => none
    | _, _ => none
  | _ => none
def buildA (T : Tab) (st : SSt V) (t : TypeId) (parts : List (Nat × Operand)) : Option (SV V) := match lk T.und t with
  | some (.array _ e) => match lk T.inf t, lk T.inf e with
    | some (some z, _, _), some (_, s, _) => bif allOne (z.cells.toList.map avOf) then (match fillS st (fun i => some (i * s, s)) (zeroS z) (evPartsS st parts) with
      | some out => some (.agg out)
      | none => none) else none
    | _, _ => none
  | _ => none
/-- numbers that stand s apart -/
def colE (k : IntKind) (s : Nat) : Nat → List (SV V) → Option (List (E V (.int k)))
  | 0, _ => some []
  | L + 1, cs => match cs with
    | .int k' e :: _ => if h : k' = k then (match colE k s L (cs.drop s) with | some r => some ((h ▸ e) :: r) | none => none) else none
    | _ => none
def colsE {ki : IntKind} (i : E V (.int ki)) (s L : Nat) : Nat → List (SV V) → Option (List (SV V))
  | 0, _ => some []
  | m + 1, cs => match hdK cs with
    | some k => match colE k s L cs with
      | some es => match colsE i s L m (cs.drop 1) with
        | some r => some (.int k (.at (intsL es) i) :: r)
        | none => none
      | none => none
    | none => none
def elemA (T : Tab) (t : TypeId) (x y : SV V) : RS V := match y, lk T.und t with
  | .int k i, some (.array L e) => match x, lk T.und e, lk T.inf e with
    | .agg cs, some D, some (_, s, _) => bif aggB D && Nat.beq cs.length (L * s) then (match colsE i s L s cs with
      | some out => some (.agg out, .bb .and (.ic .le (.iL k 0) i) (.ic .lt i (.iL .i64 L)))
      | none => none) else none
    | _, _, _ => none
  | _, _ => none
/-! views: parts of own rows -/
def asI {k : IntKind} (e : E V (.int k)) : Option (E V (.int .i64)) := if h : k = .i64 then some (h ▸ e) else none
def bndI (dflt : E V (.int .i64)) (x : Option (SV V)) : Option (E V (.int .i64)) := match bndE dflt x with
  | some ⟨_, e⟩ => asI e
  | none => none
def sliceV (T : Tab) (st : SSt V) (t : TypeId) (x : SV V) (lo hi : Option (SV V)) : RS V := match lk T.und t with
  | some (.slice e) => match x, lk T.inf e with
    | .osl id ver, some (_, sz, _) => match st.blk id with
      | .row _ ty xs _ v => match bndI (.iL .i64 0) lo, bndI (.len xs) hi with
        | some l, some h => bif Nat.beq ver v && Nat.beq sz ty.size then some (.vsl id ver l h, bndG l h (.len xs) hi.isNone) else none
        | _, _ => none
      | _ => none
    | .vsl id ver p q, some (_, sz, _) => match st.blk id with
      | .row _ ty _ _ v => match bndI (.iL .i64 0) lo, bndI (.ib .sub q p) hi with
        | some l, some h => bif Nat.beq ver v && Nat.beq sz ty.size then some (.vsl id ver (.ib .add p l) (.ib .add p h), andE (leF (.iL .i64 0) p) (bndG l h (.ib .sub q p) hi.isNone)) else none
        | _, _ => none
      | _ => none
    | _, _ => none
  | some (.array L e) => match x, lk T.inf e with
    | .elt id ver i o, some (_, sz, _) => match st.blk id with
      | .row _ ty xs _ v => match bndI (.iL .i64 0) lo, bndI (.len xs) hi with
        | some l, some h => bif Nat.beq ver v && i.zero? && Nat.beq o 0 && Nat.beq sz ty.size && Nat.blt 0 L then some (.vsl id ver l h, andE (.ic .eq (.len xs) (.iL .i64 L)) (bndG l h (.len xs) hi.isNone)) else none
        | _, _ => none
      | _ => none
    | .pk fr ty ex o, some (_, sz, _) => bif Nat.beq o 0 && Nat.beq sz 1 && Nat.beq ty.size L && Nat.blt 0 L && Nat.ble L 1000 && lo.isNone && hi.isNone then (match hdK (cellsE fr ty ex) with
      | some k => match intsS k (cellsE fr ty ex) with
        | some es => some (.ro false (.int k) (intsL es), okT)
        | none => none
      | none => none) else none
    | _, _ => none
  | _ => none
def idxV (T : Tab) (st : SSt V) (t : TypeId) (x y : SV V) : RS V := match y, lk T.und t with
  | .int _ i, some (.slice e) => match lk T.inf e, x with
    | some (_, sz, _), .vsl id ver lo hi => match st.blk id with
      | .row _ ty _ _ v => match asI i with
        | some i => bif Nat.beq ver v && Nat.beq sz ty.size then some (.elt id ver (.ib .add lo i) 0, andE (leF (.iL .i64 0) lo) (andE (leF (.iL .i64 0) i) (.ic .lt (.ib .add lo i) hi))) else none
        | none => none
      | _ => none
    | _, _ => none
  | _, _ => none
def lenV (T : Tab) (st : SSt V) (t : TypeId) (x : SV V) : RS V := match lk T.und t with
  | some (.slice _) => match x with
    | .vsl id ver lo hi => match st.blk id with
      | .row _ _ _ _ v => bif Nat.beq ver v then some (.int .i64 (.ib .sub hi lo), andE (leF (.iL .i64 0) lo) (leF lo hi)) else none
      | _ => none
    | _ => none
  | _ => none
def orN (a b : RS V) : RS V := match a with
  | some r => some r
  | none => b
def rdN (T : Tab) (st : SSt V) : Op → RS V
  | .slice t x lo hi none => orN (sliceS T t (st.ev x) (lo.map st.ev) (hi.map st.ev)) (sliceV T st t (st.ev x) (lo.map st.ev) (hi.map st.ev))
  | .call ⟨.builtin .len, ⟨[x]⟩, ⟨[t]⟩⟩ => lenV T st t (st.ev x)
  | .binOp .add _ x y _ => catS (st.ev x) (st.ev y)
  | .indexAddr t x y => orN (idxA T st t (st.ev x) (st.ev y)) (idxV T st t (st.ev x) (st.ev y))
  | .load t x => loadA T st t (st.ev x)
  | .build t parts => (buildA T st t parts.toList).map fun v => (v, okT)
  | .index t x y => elemA T t (st.ev x) (st.ev y)
  | _ => none
def rd (T : Tab) (st : SSt V) (o : Op) : RS V := match rd0 T st o with
  | some r => some r
  | none => rdN T st o
end
section
variable {P : Program} {n : Nat} {T : Tab} {st : SSt D} {m : Nat → Nat} {nx : Nat} {d : Option Nat} {ty : TypeId} {ps : String} {af : Array Edge} {g : Option (Nat × Bool)} {t t' : TypeId} {y z : Operand} {x v : SV D} {gd : E D .bool}
theorem op_load_elt' {s : ASt} {D : TypeDesc} {Z : Option Value} {sz b : Nat} {id q i o sr : Nat} {rows : List (List AV)} {e : TypeId} {a : AV} (hx : s.ev y = .elt id q i o) (hb : look .dead s.heap id = .row sr rows e) (hm : q = rows.length) (hT : P.underlying t = some D) (hI : tyI P t = some (Z, sz, b)) (hv : ∀ row, rows[i]? = some row → partA row o sz (aggB D) = some a) (hd : dok d n = true) :
    OpR P n ⟨d, .load t y, ty, ps, af, g⟩ s a := .mk hd fun K A w G rr => by
  have e1 := rr.ev y
  rw [hx] at e1
  have hi : i < rows.length := by
    cases e1 with
    | dat h => cases h
    | elt _ _ _ _ _ _ hin => omega
  exact (op_load_elt hx hb hm (List.getElem?_eq_getElem hi) hT hI (hv _ (List.getElem?_eq_getElem hi)) hd).out K A w G rr
theorem rowLen_eq {H : Nat → SB D} {id ver : Nat} {fr : Bool} {t : Ty} {xs : E D (.list t)} {e v : Nat} (h : H id = .row fr t xs e v) (hv : Nat.beq ver v = true) : rowLen H id ver = some (List.length xs.den) := by
  unfold rowLen; rw [h]; simp only [hv]; rfl
theorem rows_len {fr : Bool} {t : Ty} (xs : List t.den) : (xs.map (t.cells fr)).length = xs.length := List.length_map _
theorem at_row {fr : Bool} {t : Ty} {xs : List t.den} {i : Nat} {row : List AV} (h : (xs.map (t.cells fr))[i]? = some row) : row = t.cells fr (xs.getD i t.dflt) := by
  rw [List.getElem?_map] at h
  obtain ⟨x, hx, e⟩ := Option.map_eq_some_iff.1 h
  rw [List.getD_eq_getElem?_getD, hx]; exact e.symm
theorem loadS_ok (hT : T.ok P) (hm : MOk m nx st) (h : loadS T st t (st.ev y) = some x) (hd : dok d n = true) : OpR P n ⟨d, .load t y, ty, ps, af, g⟩ (st.enc m nx) (x.enc m st.blk) := by
  have ey := enc_ev st m nx y
  generalize st.ev y = v at h ey
  cases v <;> simp only [loadS, reduceCtorEq] at h
  · rename_i id o
    split at h
    · rename_i cs e D Z s b h1 h2 h3
      have hi : isBox st.blk id = true := by unfold isBox; rw [h1]
      rw [SV.enc, hi] at ey
      have hb := enc_blk hm (k := id) (by rw [h1]; simp)
      rw [h1, SB.enc] at hb
      exact op_load_box ey hb (allP_at hT.und h2) (allP_at hT.inf h3) (partS_enc h) hd
    · cases h
  · rename_i id ver k i o
    split at h
    · rename_i fr rt xs e v D Z s b h1 h2 h3
      cases hv : Nat.beq ver v with
      | false => rw [hv] at h; cases h
      | true =>
        rw [hv] at h
        rw [SV.enc, rowLen_eq h1 hv] at ey
        have hb := enc_blk hm (k := id) (by rw [h1]; simp)
        rw [h1, SB.enc] at hb
        refine op_load_elt' ey hb (rows_len _).symm (allP_at hT.und h2) (allP_at hT.inf h3) (fun row hr => ?_) hd
        have hp := partS_enc (m := m) (H := st.blk) h
        rw [cellsE_enc] at hp
        rw [at_row hr]
        exact hp
    · cases h
  · rename_i fr pt e o
    split at h
    · rename_i D Z s b h2 h3
      rw [SV.enc] at ey
      have hp := partS_enc (m := m) (H := st.blk) h
      rw [cellsE_enc] at hp
      exact op_load_peek ey (allP_at hT.und h2) (allP_at hT.inf h3) hp hd
    · cases h
theorem fldS_ok {f : Nat} (hT : T.ok P) (hm : MOk m nx st) (h : fldS T st t f (st.ev y) = some x) (hd : dok d n = true) : OpR P n ⟨d, .fieldAddr t y f, ty, ps, af, g⟩ (st.enc m nx) (x.enc m st.blk) := by
  have ey := enc_ev st m nx y
  generalize st.ev y = v at h ey
  unfold fldS at h
  split at h
  · rename_i fl hF
    split at h
    · rename_i off s b hf
      cases hs : Nat.beq s 0 with
      | true => rw [hs] at h; cases h
      | false =>
        rw [hs] at h
        have hs0 : s ≠ 0 := fun e => by subst e; cases hs
        have hF := allP_at hT.fld hF
        simp only [cond_false] at h
        split at h
        · rename_i id o
          split at h
          · rename_i h1
            injection h with h
            subst h
            have hi : isBox st.blk id = true := by unfold isBox; rw [h1]
            rw [SV.enc, hi] at ey
            rw [SV.enc, hi]
            exact op_fieldAddr_box ey hF hf hs0 hd
          · cases h
        · rename_i fr pt e o
          injection h with h
          subst h
          rw [SV.enc] at ey
          rw [SV.enc]
          exact op_fieldAddr_peek ey hF hf hs0 hd
        · rename_i id ver k i o
          split at h
          · rename_i fr rt xs e v h1
            cases hv : Nat.beq ver v with
            | false => rw [hv] at h; cases h
            | true =>
              rw [hv] at h
              injection h with h
              subst h
              rw [SV.enc, rowLen_eq h1 hv] at ey
              rw [SV.enc, rowLen_eq h1 hv]
              have hb := enc_blk hm (k := id) (by rw [h1]; simp)
              rw [h1, SB.enc] at hb
              exact op_fieldAddr_elt ey hF hf hs0 ⟨_, _, _, hb, (rows_len _).symm⟩ hd
          · cases h
        · cases h
    · cases h
  · cases h
theorem idxS_ok (hT : T.ok P) (hm : MOk m nx st) (h : idxS T st t (st.ev y) (st.ev z) = some (x, gd)) (hg : gd.den = true) (hd : dok d n = true) : OpR P n ⟨d, .indexAddr t y z, ty, ps, af, g⟩ (st.enc m nx) (x.enc m st.blk) := by
  have ey := enc_ev st m nx y
  have ez := enc_ev st m nx z
  generalize st.ev y = v at h ey
  generalize st.ev z = u at h ez
  unfold idxS at h
  split at h
  · rename_i k i e hu
    split at h
    · rename_i Z sz b hI
      rw [SV.enc] at ez
      split at h
      · rename_i fr rt xs
        cases hc : (Nat.beq sz rt.size && Nat.blt 0 sz) with
        | false => rw [hc] at h; cases h
        | true =>
          rw [hc] at h
          simp only [cond_true, Option.some.injEq, Prod.mk.injEq] at h
          obtain ⟨rfl, rfl⟩ := h
          rw [Bool.and_eq_true] at hc
          have hsz := Nat.eq_of_beq_eq_true hc.1
          subst hsz
          obtain ⟨h0, h1⟩ := inr_den hg
          rw [SV.enc] at ey
          rw [SV.enc]
          have hr : (List.map (rt.cells fr) xs.den)[Int.toNat i.den]? = some (rt.cells fr (E.at xs i).den) := by
            have hlt : (Int.toNat i.den) < List.length xs.den := (Int.toNat_lt h0).2 h1
            rw [List.getElem?_map, List.getElem?_eq_getElem hlt]
            show some _ = some (rt.cells fr (List.getD xs.den _ _))
            rw [List.getD_eq_getElem?_getD, List.getElem?_eq_getElem hlt]; rfl
          refine op_index_ro ey ez (allP_at hT.und hu) (allP_at hT.inf hI) h0 hr ?_ hd
          intro e
          have := rt.cells_length fr (E.at xs i).den
          rw [e] at this
          have h2 := hc.2
          rw [← this] at h2
          cases h2
      · rename_i id ver
        split at h
        · rename_i fr rt xs e' v h1
          cases hc : (Nat.beq ver v && Nat.beq sz rt.size) with
          | false => rw [hc] at h; cases h
          | true =>
            rw [hc] at h
            simp only [cond_true, Option.some.injEq, Prod.mk.injEq] at h
            obtain ⟨rfl, rfl⟩ := h
            rw [Bool.and_eq_true] at hc
            have hsz := Nat.eq_of_beq_eq_true hc.2
            obtain ⟨g0, g1⟩ := inr_den hg
            rw [SV.enc, rowLen_eq h1 hc.1] at ey
            rw [SV.enc, rowLen_eq h1 hc.1]
            have hb := enc_blk hm (k := id) (by rw [h1]; simp)
            rw [h1, SB.enc] at hb
            exact op_index_osl ey hb (rows_len _).symm ez (allP_at hT.und hu) (allP_at hT.inf hI) hsz g0 g1 hd
        · cases h
      · cases h
    · cases h
  · cases h
theorem lenS_ok (hT : T.ok P) (h : lenS T st t (st.ev y) = some x) (hd : dok d n = true) : OpR P n ⟨d, .call ⟨.builtin .len, ⟨[y]⟩, ⟨[t]⟩⟩, ty, ps, af, g⟩ (st.enc m nx) (x.enc m st.blk) := by
  have ey := enc_ev st m nx y
  generalize st.ev y = v at h ey
  unfold lenS at h
  split at h
  · rename_i e hu
    split at h
    · rename_i fr rt xs
      injection h with h
      subst h
      rw [SV.enc] at ey
      rw [SV.enc]
      exact op_len (m := List.length xs.den) (by rw [ey, AV.lenA, rows_len]) (allP_at hT.und hu) hd
    · rename_i id ver
      split at h
      · rename_i fr rt xs e' v h1
        cases hv : Nat.beq ver v with
        | false => rw [hv] at h; cases h
        | true =>
          rw [hv] at h
          injection h with h
          subst h
          rw [SV.enc, rowLen_eq h1 hv] at ey
          rw [SV.enc]
          exact op_len (m := List.length xs.den) (by rw [ey, AV.lenA]) (allP_at hT.und hu) hd
      · cases h
    · injection h with h
      subst h
      rw [SV.enc] at ey
      rw [SV.enc]
      exact op_len (m := 0) (by rw [ey, AV.lenA]) (allP_at hT.und hu) hd
    · cases h
  · rename_i hu
    split at h
    · rename_i s
      injection h with h
      subst h
      rw [SV.enc] at ey
      rw [SV.enc]
      have := op_len_str (ty := ty) (ps := ps) (af := af) (g := g) ey (allP_at hT.und hu) hd
      exact this
    · cases h
  · cases h
theorem minS_ok {o : IB} {b : Builtin} {tt : Array TypeId} (ho : (o = .min ∧ b = .min) ∨ (o = .max ∧ b = .max)) (h : minS o (st.ev y) (st.ev z) = some (x, gd)) (hd : dok d n = true) : OpR P n ⟨d, .call ⟨.builtin b, ⟨[y, z]⟩, tt⟩, ty, ps, af, g⟩ (st.enc m nx) (x.enc m st.blk) := by
  have ey := enc_ev st m nx y
  have ez := enc_ev st m nx z
  generalize st.ev y = v at h ey
  generalize st.ev z = u at h ez
  unfold minS at h
  split at h
  · rename_i k a k' b'
    split at h
    · rename_i hk
      subst hk
      simp only [Option.some.injEq, Prod.mk.injEq] at h
      obtain ⟨rfl, rfl⟩ := h
      rw [SV.enc] at ey
      rw [SV.enc] at ez
      rw [SV.enc]
      rcases ho with ⟨rfl, rfl⟩ | ⟨rfl, rfl⟩
      · exact op_min ey ez hd
      · exact op_max ey ez hd
    · cases h
  · cases h
theorem intsL_den {k : IntKind} (l : List (E D (.int k))) : (intsL l).den = densI l := by
  induction l with
  | nil => rfl
  | cons a l ih => rw [intsL, E.den, ih]; rfl
theorem intsOf_len {k : IntKind} {cs : List AV} {ns : List Int} (h : intsOf k cs = some ns) : ns.length = cs.length := by rw [intsOf_eq h, List.length_map]
theorem elemS_ok (hT : T.ok P) (h : elemS T t (st.ev y) (st.ev z) = some (x, gd)) (hg : gd.den = true) (hd : dok d n = true) : OpR P n ⟨d, .index t y z, ty, ps, af, g⟩ (st.enc m nx) (x.enc m st.blk) := by
  have ey := enc_ev st m nx y
  have ez := enc_ev st m nx z
  generalize st.ev y = v at h ey
  generalize st.ev z = u at h ez
  unfold elemS at h
  split at h
  · rename_i k i L e hu
    split at h
    · rename_i cs Dd Z s b h2 h3
      rw [SV.enc] at ey
      rw [SV.enc] at ez
      split at h
      · rename_i c
        cases hc : (decide (0 ≤ c) && decide (c < (L : Int))) with
        | false => rw [hc] at h; cases h
        | true =>
          rw [hc] at h
          simp only [cond_true] at h
          simp only [Bool.and_eq_true, decide_eq_true_eq] at hc
          split at h
          · rename_i v hv
            simp only [Option.some.injEq, Prod.mk.injEq] at h
            obtain ⟨rfl, rfl⟩ := h
            exact op_index_agg ey ez (allP_at hT.und hu) (allP_at hT.und h2) (allP_at hT.inf h3) hc.1 hc.2 (partS_enc hv) hd
          · cases h
      · cases hc : (Nat.beq s 1 && (!aggB Dd) && Nat.beq cs.length L) with
        | false => rw [hc] at h; cases h
        | true =>
          rw [hc] at h
          simp only [cond_true] at h
          rw [Bool.and_eq_true, Bool.and_eq_true] at hc
          obtain ⟨⟨hs1, ha⟩, hL⟩ := hc
          have hs1 := Nat.eq_of_beq_eq_true hs1
          subst hs1
          have hL := Nat.eq_of_beq_eq_true hL
          have ha : aggB Dd = false := by simpa using ha
          split at h
          · rename_i k' hk
            split at h
            · rename_i es hes
              simp only [Option.some.injEq, Prod.mk.injEq] at h
              obtain ⟨rfl, rfl⟩ := h
              obtain ⟨h0, h1⟩ := andB hg
              have h0 : (0 : Int) ≤ i.den := of_decide_eq_true h0
              have h1 : i.den < (L : Int) := of_decide_eq_true h1
              have hi := intsS_enc (m := m) (H := st.blk) hes
              have hl := intsOf_len hi
              rw [encL_length, hL] at hl
              refine op_index_agg ey ez (allP_at hT.und hu) (allP_at hT.und h2) (allP_at hT.inf h3) h0 h1 ?_ hd
              have hlt : (Int.toNat i.den) < (densI es).length := by rw [hl]; exact (Int.toNat_lt h0).2 h1
              rw [partA, ha, if_neg (by decide), Nat.mul_one, intsOf_eq hi, List.getElem?_map, List.getElem?_eq_getElem hlt, SV.enc]
              show some _ = some (AV.int k' (List.getD (intsL es).den _ _))
              rw [intsL_den, List.getD_eq_getElem?_getD, List.getElem?_eq_getElem hlt]; rfl
            · cases h
          · cases h
    · cases h
  · rename_i k i hu
    split at h
    · rename_i s
      simp only [Option.some.injEq, Prod.mk.injEq] at h
      obtain ⟨rfl, rfl⟩ := h
      obtain ⟨h0, h1⟩ := inrS_den hg
      rw [SV.enc] at ey
      rw [SV.enc] at ez
      rw [SV.enc]
      have hlt : (Int.toNat i.den) < List.length s.den := (Int.toNat_lt h0).2 h1
      have hc : (⟨⟨s.den⟩⟩ : ByteArray).data.toList[Int.toNat i.den]? = some (List.getD s.den (Int.toNat i.den) 0) := by
        show (s.den : List UInt8)[Int.toNat i.den]? = _
        rw [List.getD_eq_getElem?_getD, List.getElem?_eq_getElem hlt]; rfl
      exact op_index_str ey ez (allP_at hT.und hu) h0 hc hd
    · cases h
  · cases h
theorem buildS_ok {parts : Array (Nat × Operand)} (hT : T.ok P) (h : buildS T st t parts.toList = some x) (hd : dok d n = true) : OpR P n ⟨d, .build t parts, ty, ps, af, g⟩ (st.enc m nx) (x.enc m st.blk) := by
  unfold buildS at h
  split at h
  · rename_i Z s b fl h1 h2
    cases hc : allOne (Z.cells.toList.map avOf) with
    | false => rw [hc] at h; cases h
    | true =>
      rw [hc] at h
      simp only [cond_true] at h
      split at h
      · rename_i out hf
        injection h with h
        subst h
        rw [SV.enc]
        have hf := fillS_enc (m := m) hf
        rw [zeroS_enc, ← evPartsS_enc (nx := nx)] at hf
        exact op_build (allP_at hT.inf h1) rfl hc (allP_at hT.fld h2) hf hd
      · cases h
  · cases h
theorem pickS_ok {c : Operand} (h : pickS (st.ev c) (st.ev y) (st.ev z) = some x) (hd : dok d n = true) : OpR P n ⟨d, .pick c y z, ty, ps, af, g⟩ (st.enc m nx) (x.enc m st.blk) := by
  have ec := enc_ev st m nx c
  have ey := enc_ev st m nx y
  have ez := enc_ev st m nx z
  generalize st.ev c = w at h ec
  generalize st.ev y = v at h ey
  generalize st.ev z = u at h ez
  unfold pickS at h
  split at h
  · injection h with h
    subst h
    rw [SV.enc] at ec
    exact op_pick ec (by rw [ey]; rfl) hd
  · injection h with h
    subst h
    rw [SV.enc] at ec
    exact op_pick ec (by rw [ez]; rfl) hd
  · rename_i c _ _
    rw [SV.enc] at ec
    split at h
    · rename_i a b
      injection h with h
      subst h
      rw [SV.enc] at ey
      rw [SV.enc] at ez
      rw [SV.enc]
      refine op_pick ec ?_ hd
      rw [ey, ez, iteB_den]
      generalize (c.den : Bool) = q
      cases q <;> rfl
    · rename_i k a k' b
      split at h
      · rename_i hk
        subst hk
        injection h with h
        subst h
        rw [SV.enc] at ey
        rw [SV.enc] at ez
        rw [SV.enc]
        refine op_pick ec ?_ hd
        rw [ey, ez, E.den]
        generalize (c.den : Bool) = q
        cases q <;> rfl
      · cases h
    · cases h
  · cases h
theorem rows_u8 {fr : Bool} (xs : List Int) : xs.map ((Ty.int .u8).cells fr) = xs.map (eI .u8) := List.map_congr_left fun x _ => by rw [Ty.cells]; rfl
theorem convS_ok (hT : T.ok P) (hm : MOk m nx st) (h : convS T st t t' (st.ev y) = some x) (hd : dok d n = true) : OpR P n ⟨d, .convert t t' y, ty, ps, af, g⟩ (st.enc m nx) (x.enc m st.blk) := by
  have ey := enc_ev st m nx y
  generalize st.ev y = v at h ey
  unfold convS at h
  split at h
  · rename_i k e s k' h1 h2
    injection h with h
    subst h
    rw [SV.enc] at ey
    rw [SV.enc]
    exact op_conv ey (allP_at hT.und h1) (allP_at hT.und h2) rfl hd
  · rename_i fr xs e h1 h2
    split at h
    · rename_i h3
      injection h with h
      subst h
      rw [SV.enc] at ey
      rw [SV.enc]
      have hs : SrcA (st.enc m nx).heap 1 ((st.enc m nx).ev y) ((xs.den : List Int).map (eI .u8)) := by
        rw [ey, rows_u8]
        exact .ro _ _ (fun row hr => by
          obtain ⟨x, _, rfl⟩ := List.mem_map.1 hr
          exact ⟨rfl, rfl⟩)
      exact op_bytesStr hs (allP_at hT.und h1) (allP_at hT.und h3) (allP_at hT.und h2) hd
    · cases h
  · rename_i id ver e h1 h2
    split at h
    · rename_i fr xs e' v h3 h4
      cases hv : Nat.beq ver v with
      | false => rw [hv] at h; cases h
      | true =>
        rw [hv] at h
        injection h with h
        subst h
        rw [SV.enc, rowLen_eq h4 hv] at ey
        rw [SV.enc]
        have hb := enc_blk hm (k := id) (by rw [h4]; simp)
        rw [h4, SB.enc, rows_u8] at hb
        have hs : SrcA (st.enc m nx).heap 1 ((st.enc m nx).ev y) ((xs.den : List Int).map (eI .u8)) := by
          rw [ey]
          exact .osl _ _ _ _ hb (by rw [List.length_map])
        exact op_bytesStr hs (allP_at hT.und h1) (allP_at hT.und h3) (allP_at hT.und h2) hd
    · cases h
  · rename_i id ver lo hi e h1 h2
    split at h
    · rename_i fr xs e' v h3 h4
      cases hv : Nat.beq ver v with
      | false => rw [hv] at h; cases h
      | true =>
        rw [hv] at h
        injection h with h
        subst h
        rw [SV.enc, rowLen_eq h4 hv] at ey
        rw [SV.enc]
        have hb := enc_blk hm (k := id) (by rw [h4]; simp)
        rw [h4, SB.enc, rows_u8] at hb
        have hs : SrcA (st.enc m nx).heap 1 ((st.enc m nx).ev y) ((((xs.den : List Int).take (hi.den : Int).toNat).drop (lo.den : Int).toNat).map (eI .u8)) := by
          rw [ey]
          refine .vsl _ _ _ _ _ _ _ hb (by rw [List.length_map]) ?_
          rw [← List.map_drop, ← List.map_take, List.drop_take]
        exact op_bytesStr hs (allP_at hT.und h1) (allP_at hT.und h3) (allP_at hT.und h2) hd
    · cases h
  · cases h
theorem map_some {α β : Type} {f : α → β} {o : Option α} {b : β} (h : o.map f = some b) : ∃ a, o = some a ∧ f a = b := Option.map_eq_some_iff.1 h
theorem rd0_ok {o : Oper} (hT : T.ok P) (hm : MOk m nx st) (h : rd0 T st o.op = some (x, gd)) (hg : gd.den = true) (hd : dok o.dst n = true) : OpR P n o (st.enc m nx) (x.enc m st.blk) := by
  obtain ⟨d, op, ty, ps, af, g⟩ := o
  simp only at h
  have hd : dok d n = true := hd
  unfold rd0 at h
  split at h
  · simp only [Option.some.injEq, Prod.mk.injEq] at h
    obtain ⟨rfl, rfl⟩ := h
    exact op_move (enc_ev st m nx _) hd
  · simp only [Option.some.injEq, Prod.mk.injEq] at h
    obtain ⟨rfl, rfl⟩ := h
    exact op_assign (enc_ev st m nx _) hd
  · obtain ⟨v, h1, h2⟩ := map_some h
    simp only [Prod.mk.injEq] at h2
    obtain ⟨rfl, rfl⟩ := h2
    exact pickS_ok h1 hd
  · exact binS_ok hT rfl rfl h hg hd
  · rename_i t y
    have ey := enc_ev st m nx y
    split at h
    · rename_i b hb
      simp only [Option.some.injEq, Prod.mk.injEq] at h
      obtain ⟨rfl, rfl⟩ := h
      rw [hb, SV.enc] at ey
      rw [SV.enc, notE_den]
      exact op_not ey hd
    · cases h
  · rename_i t y
    have ey := enc_ev st m nx y
    split at h
    · rename_i k a hb
      simp only [Option.some.injEq, Prod.mk.injEq] at h
      obtain ⟨rfl, rfl⟩ := h
      rw [hb, SV.enc] at ey
      rw [SV.enc]
      exact op_neg ey rfl hd
    · cases h
  · obtain ⟨v, h1, h2⟩ := map_some h
    simp only [Prod.mk.injEq] at h2
    obtain ⟨rfl, rfl⟩ := h2
    exact convS_ok hT hm h1 hd
  · rename_i y i
    have ey := enc_ev st m nx y
    split at h
    · rename_i vs hb
      obtain ⟨v, h1, h2⟩ := map_some h
      simp only [Prod.mk.injEq] at h2
      obtain ⟨rfl, rfl⟩ := h2
      rw [hb, SV.enc] at ey
      exact op_extract ey (encL_get h1) hd
    · cases h
  · obtain ⟨v, h1, h2⟩ := map_some h
    simp only [Prod.mk.injEq] at h2
    obtain ⟨rfl, rfl⟩ := h2
    exact fldS_ok hT hm h1 hd
  · rename_i y
    have ey := enc_ev st m nx y
    split at h
    · rename_i id o hb
      split at h
      · rename_i h1
        simp only [Option.some.injEq, Prod.mk.injEq] at h
        obtain ⟨rfl, rfl⟩ := h
        have hi : isBox st.blk id = true := by unfold isBox; rw [h1]
        rw [hb, SV.enc, hi] at ey
        rw [SV.enc, hi]
        exact op_nilCheck_box ey hd
      · cases h
    · rename_i fr pt e o hb
      simp only [Option.some.injEq, Prod.mk.injEq] at h
      obtain ⟨rfl, rfl⟩ := h
      rw [hb, SV.enc] at ey
      rw [SV.enc]
      exact op_nilCheck_peek ey hd
    · rename_i id ver k i o hb
      split at h
      · rename_i fr rt xs e v h1
        cases hv : Nat.beq ver v with
        | false => rw [hv] at h; cases h
        | true =>
          rw [hv] at h
          simp only [cond_true, Option.some.injEq, Prod.mk.injEq] at h
          obtain ⟨rfl, rfl⟩ := h
          rw [hb, SV.enc, rowLen_eq h1 hv] at ey
          rw [SV.enc, rowLen_eq h1 hv]
          exact op_nilCheck_elt ey hd
      · cases h
    · cases h
  · rename_i t y f
    have ey := enc_ev st m nx y
    split at h
    · rename_i cs fl hb hF
      split at h
      · rename_i off s b hf
        obtain ⟨v, h1, h2⟩ := map_some h
        simp only [Prod.mk.injEq] at h2
        obtain ⟨rfl, rfl⟩ := h2
        rw [hb, SV.enc] at ey
        exact op_field ey (allP_at hT.fld hF) hf (partS_enc h1) hd
      · cases h
    · cases h
  · obtain ⟨v, h1, h2⟩ := map_some h
    simp only [Prod.mk.injEq] at h2
    obtain ⟨rfl, rfl⟩ := h2
    exact loadS_ok hT hm h1 hd
  · obtain ⟨v, h1, h2⟩ := map_some h
    simp only [Prod.mk.injEq] at h2
    obtain ⟨rfl, rfl⟩ := h2
    exact buildS_ok hT h1 hd
  · simp only [Option.some.injEq, Prod.mk.injEq] at h
    obtain ⟨rfl, rfl⟩ := h
    rw [SV.enc, ← evS_enc (nx := nx)]
    exact op_mkfunc hd
  · obtain ⟨v, h1, h2⟩ := map_some h
    simp only [Prod.mk.injEq] at h2
    obtain ⟨rfl, rfl⟩ := h2
    exact lenS_ok hT h1 hd
  · exact minS_ok (.inl ⟨rfl, rfl⟩) h hd
  · exact minS_ok (.inr ⟨rfl, rfl⟩) h hd
  · exact idxS_ok hT hm h hg hd
  · exact elemS_ok hT h hg hd
  · cases h
theorem zero_den {k : IntKind} {e : E D (.int k)} (h : e.zero? = true) : (e.den : Int) = 0 := by
  unfold E.zero? at h
  split at h
  · exact of_decide_eq_true h
  · cases h
theorem leF_den {k k' : IntKind} {a : E D (.int k)} {b : E D (.int k')} (h : (leF a b).den = true) : (a.den : Int) ≤ (b.den : Int) := by
  unfold leF at h
  split at h
  · split at h <;> exact of_decide_eq_true h
  · exact of_decide_eq_true h
theorem ltL_den {k : IntKind} {a : E D (.int k)} {L : Nat} (h : (ltL a L).den = true) : (a.den : Int) < (L : Int) := by
  unfold ltL at h
  split at h <;> exact of_decide_eq_true h
theorem andE_b {a b : E D .bool} (h : (andE a b).den = true) : a.den = true ∧ b.den = true := by
  rw [andE_den] at h
  exact Bool.and_eq_true _ _ ▸ h
theorem bndG_den {k k' : IntKind} {l : E D (.int k)} {h : E D (.int k')} {n : E D (.int .i64)} {all : Bool} (hg : (bndG l h n all).den = true) (ha : all = true → (h.den : Int) ≤ (n.den : Int)) : 0 ≤ (l.den : Int) ∧ (l.den : Int) ≤ (h.den : Int) ∧ (h.den : Int) ≤ (n.den : Int) := by
  unfold bndG at hg
  obtain ⟨g1, g2⟩ := andE_b hg
  obtain ⟨g2, g3⟩ := andE_b g2
  refine ⟨leF_den g1, leF_den g2, ?_⟩
  cases all with
  | true => exact ha rfl
  | false => exact leF_den g3
theorem bndE_ok {dflt : E D (.int .i64)} {lo : Option Operand} {k : IntKind} {e : E D (.int k)} (h : bndE dflt (lo.map st.ev) = some ⟨k, e⟩) : BndA (st.enc m nx) (dflt.den : Int) lo (e.den : Int) ∧ (lo.isNone = true → (e.den : Int) = dflt.den) := by
  cases lo with
  | none =>
    simp only [Option.map_none, bndE, Option.some.injEq, Sigma.mk.injEq] at h
    obtain ⟨rfl, h⟩ := h
    have h := eq_of_heq h
    subst h
    exact ⟨.no, fun _ => rfl⟩
  | some o =>
    rw [Option.map_some] at h
    have eo := enc_ev st m nx o
    generalize st.ev o = v at h eo
    unfold bndE at h
    split at h
    · rename_i e1; cases e1
    · rename_i k' e' e1
      injection e1 with e1
      subst e1
      simp only [Option.some.injEq, Sigma.mk.injEq] at h
      obtain ⟨rfl, h⟩ := h
      have h := eq_of_heq h
      subst h
      rw [SV.enc] at eo
      exact ⟨.yes eo, fun h => by cases h⟩
    · cases h
theorem sliceS_ok {lo hi : Option Operand} (hT : T.ok P) (h : sliceS T t (st.ev y) (lo.map st.ev) (hi.map st.ev) = some (x, gd)) (hg : gd.den = true) (hd : dok d n = true) : OpR P n ⟨d, .slice t y lo hi none, ty, ps, af, g⟩ (st.enc m nx) (x.enc m st.blk) := by
  have ey := enc_ev st m nx y
  generalize st.ev y = v at h ey
  unfold sliceS at h
  split at h
  · rename_i e hu
    split at h
    · rename_i fr rt xs Z sz b hI
      split at h
      · rename_i k l k' hh h1 h2
        cases hc : Nat.beq sz rt.size with
        | false => rw [hc] at h; cases h
        | true =>
          rw [hc] at h
          simp only [cond_true, Option.some.injEq, Prod.mk.injEq] at h
          obtain ⟨rfl, rfl⟩ := h
          have hsz := Nat.eq_of_beq_eq_true hc
          subst hsz
          obtain ⟨b1, _⟩ := bndE_ok (m := m) (nx := nx) h1
          obtain ⟨b2, b3⟩ := bndE_ok (m := m) (nx := nx) h2
          have hn : (hi.map st.ev).isNone = hi.isNone := by cases hi <;> rfl
          rw [hn] at hg
          obtain ⟨g1, g2, g3⟩ := bndG_den hg (fun ha => by rw [b3 ha]; exact Int.le_refl _)
          rw [SV.enc] at ey
          rw [SV.enc]
          have hl : ((xs.den : List rt.den).map (rt.cells fr)).length = List.length xs.den := List.length_map _
          have key := op_slice_ro (ty := ty) (ps := ps) (af := af) (g := g) ey b1 (by rw [hl]; exact b2) (allP_at hT.und hu) (allP_at hT.inf hI) g1 g2 (by rw [hl]; exact g3) hd
          rw [← List.map_take, ← List.map_drop] at key
          exact key
      · cases h
    · cases h
  · rename_i hu
    split at h
    · rename_i s
      split at h
      · rename_i k l k' hh h1 h2
        simp only [Option.some.injEq, Prod.mk.injEq] at h
        obtain ⟨rfl, rfl⟩ := h
        obtain ⟨b1, _⟩ := bndE_ok (m := m) (nx := nx) h1
        obtain ⟨b2, b3⟩ := bndE_ok (m := m) (nx := nx) h2
        have hn : (hi.map st.ev).isNone = hi.isNone := by cases hi <;> rfl
        rw [hn] at hg
        obtain ⟨g1, g2, g3⟩ := bndG_den hg (fun ha => by rw [b3 ha]; exact Int.le_refl _)
        rw [SV.enc] at ey
        rw [SV.enc]
        have key := op_slice_str (ty := ty) (ps := ps) (af := af) (g := g) ey b1 b2 (allP_at hT.und hu) g1 g2 g3 hd
        rw [ext_list] at key
        exact key
      · cases h
    · cases h
  · cases h
theorem catS_ok {a b : SV D} (ha : st.ev y = a) (hb : st.ev z = b) (h : catS a b = some (x, gd)) (hg : gd.den = true) (hd : dok d n = true) : OpR P n ⟨d, .binOp .add t y z t', ty, ps, af, g⟩ (st.enc m nx) (x.enc m st.blk) := by
  have ey := enc_ev st m nx y
  have ez := enc_ev st m nx z
  rw [ha] at ey
  rw [hb] at ez
  unfold catS at h
  split at h
  · rename_i s r
    simp only [Option.some.injEq, Prod.mk.injEq] at h
    obtain ⟨rfl, rfl⟩ := h
    rw [SV.enc] at ey
    rw [SV.enc] at ez
    rw [SV.enc]
    have key := op_cat (P := P) (t := t) (t' := t') (ty := ty) (ps := ps) (af := af) (g := g) ey ez (by
      have := leF_den hg
      have h1 : ((List.length s.den : Int) + (List.length r.den : Int)) ≤ 9223372036854775807 := this
      show (((List.length s.den + List.length r.den : Nat)) : Int) ≤ _
      omega) hd
    rw [cat_list] at key
    exact key
  · cases h
theorem inr_bd {rt : Ty} {k : IntKind} {i : E D (.int k)} {xs : E D (.list rt)} (h : (inr i xs).den = true) : 0 ≤ (i.den : Int) ∧ (i.den : Int) < (List.length xs.den : Int) := inr_den h
theorem idxA_ok (hT : T.ok P) (hm : MOk m nx st) (h : idxA T st t (st.ev y) (st.ev z) = some (x, gd)) (hg : gd.den = true) (hd : dok d n = true) : OpR P n ⟨d, .indexAddr t y z, ty, ps, af, g⟩ (st.enc m nx) (x.enc m st.blk) := by
  have ey := enc_ev st m nx y
  have ez := enc_ev st m nx z
  generalize st.ev y = v at h ey
  generalize st.ev z = u at h ez
  unfold idxA at h
  split at h
  · rename_i k j L e hu
    split at h
    · rename_i Z sz b id ver k2 i o hI
      split at h
      · rename_i fr rt xs e' v' hb
        cases hc : (Nat.beq ver v' && i.zero? && Nat.beq o 0 && Nat.beq sz rt.size) with
        | false => rw [hc] at h; cases h
        | true =>
          rw [hc] at h
          simp only [cond_true, Option.some.injEq, Prod.mk.injEq] at h
          obtain ⟨rfl, rfl⟩ := h
          simp only [Bool.and_eq_true] at hc
          obtain ⟨⟨⟨c1, c2⟩, c3⟩, c4⟩ := hc
          have h3 := Nat.eq_of_beq_eq_true c3
          subst h3
          have h4 := Nat.eq_of_beq_eq_true c4
          subst h4
          have hbb := enc_blk hm (k := id) (by rw [hb]; simp)
          rw [hb, SB.enc] at hbb
          rw [SV.enc, rowLen_eq hb c1, zero_den c2] at ey
          rw [SV.enc, rowLen_eq hb c1]
          rw [SV.enc] at ez
          obtain ⟨g1, g2⟩ := andE_b hg
          obtain ⟨g3, g4⟩ := inr_bd g1
          exact op_index_arr ey hbb (rows_len _).symm ez (allP_at hT.und hu) (allP_at hT.inf hI) g3 (ltL_den g2) g4 hd
      · cases h
    · cases h
  · cases h
theorem cellsN_enc (fr : Bool) (rt : Ty) (xs : E D (.list rt)) (H : Nat → SB D) : ∀ (n k : Nat), SV.encL m H (cellsN fr rt xs n k) = ((List.range' k n).map fun i => rt.cells fr ((xs.den : List rt.den).getD i rt.dflt)).flatten
  | 0, k => by rw [cellsN, SV.encL]; rfl
  | n + 1, k => by
    rw [cellsN, encL_map, List.map_append, ← encL_map, ← encL_map, cellsE_enc, cellsN_enc fr rt xs H n (k + 1), List.range'_succ, List.map_cons, List.flatten_cons]
    rfl
theorem getD_range {α : Type} (d : α) (xs : List α) : (List.range' 0 xs.length).map (fun i => xs.getD i d) = xs := by
  refine List.ext_getElem (by simp) fun i h1 h2 => ?_
  simp [List.getD_eq_getElem?_getD, h2]
theorem loadA_ok (hT : T.ok P) (hm : MOk m nx st) (h : loadA T st t (st.ev y) = some (x, gd)) (hg : gd.den = true) (hd : dok d n = true) : OpR P n ⟨d, .load t y, ty, ps, af, g⟩ (st.enc m nx) (x.enc m st.blk) := by
  have ey := enc_ev st m nx y
  generalize st.ev y = v at h ey
  unfold loadA at h
  split at h
  · rename_i L e hu
    split at h
    · rename_i Z sz b id ver k2 i o hI
      split at h
      · rename_i fr rt xs e' v' hb
        cases hc : (Nat.beq ver v' && i.zero? && Nat.beq o 0 && Nat.beq sz (L * rt.size) && Nat.blt 0 L) with
        | false => rw [hc] at h; cases h
        | true =>
          rw [hc] at h
          simp only [cond_true, Option.some.injEq, Prod.mk.injEq] at h
          obtain ⟨rfl, rfl⟩ := h
          simp only [Bool.and_eq_true] at hc
          obtain ⟨⟨⟨⟨c1, c2⟩, c3⟩, c4⟩, c5⟩ := hc
          have h3 := Nat.eq_of_beq_eq_true c3
          subst h3
          have h5 : 0 < L := by simpa using c5
          have hl : (List.length xs.den : Int) = (L : Int) := of_decide_eq_true hg
          have hbb := enc_blk hm (k := id) (by rw [hb]; simp)
          rw [hb, SB.enc] at hbb
          rw [SV.enc, rowLen_eq hb c1, zero_den c2] at ey
          rw [SV.enc, cellsN_enc]
          have hL : L = List.length xs.den := by omega
          subst hL
          have e1 : ((List.range' 0 (List.length xs.den)).map fun i => rt.cells fr ((xs.den : List rt.den).getD i rt.dflt)) = (xs.den : List rt.den).map (rt.cells fr) := by
            have e2 := congrArg (List.map (rt.cells fr)) (getD_range rt.dflt (xs.den : List rt.den))
            rw [List.map_map] at e2
            exact e2
          rw [e1]
          exact op_load_arr ey hbb (rows_len _).symm h5 (allP_at hT.und hu) rfl (allP_at hT.inf hI) (Nat.eq_of_beq_eq_true c4) hd
      · cases h
    · cases h
  · cases h
theorem buildA_ok {parts : Array (Nat × Operand)} (hT : T.ok P) (h : buildA T st t parts.toList = some x) (hd : dok d n = true) : OpR P n ⟨d, .build t parts, ty, ps, af, g⟩ (st.enc m nx) (x.enc m st.blk) := by
  unfold buildA at h
  split at h
  · rename_i L e hu
    split at h
    · rename_i Z s b Z' s' b' h1 h2
      cases hc : allOne (Z.cells.toList.map avOf) with
      | false => rw [hc] at h; cases h
      | true =>
        rw [hc] at h
        simp only [cond_true] at h
        split at h
        · rename_i out hf
          injection h with h
          subst h
          rw [SV.enc]
          have hf := fillS_enc (m := m) hf
          rw [zeroS_enc, ← evPartsS_enc (nx := nx)] at hf
          exact op_build_arr (allP_at hT.und hu) (allP_at hT.inf h1) (allP_at hT.inf h2) rfl hc hf hd
        · cases h
    · cases h
  · cases h
theorem colE_enc {H : Nat → SB D} {k : IntKind} {s : Nat} : ∀ {L : Nat} {cs : List (SV D)} {es : List (E D (.int k))}, colE k s L cs = some es → ∀ r, r < L → (SV.encL m H cs)[r * s]? = some (AV.int k (List.getD (densI es) r 0))
  | 0, _, _, _, r, hr => absurd hr (Nat.not_lt_zero _)
  | L + 1, [], es, h, r, hr => by simp [colE] at h
  | L + 1, c :: tl, es, h, r, hr => by
    cases c with
    | int k' e =>
      rw [colE] at h
      split at h
      · rename_i hk
        subst hk
        split at h
        · rename_i q hq
          injection h with h
          subst h
          cases r with
          | zero => rw [Nat.zero_mul, SV.encL, SV.enc]; rfl
          | succ r =>
            have := colE_enc (H := H) hq r (by omega)
            rw [encL_map, List.map_drop, List.getElem?_drop, ← encL_map] at this
            rw [Nat.add_mul, Nat.one_mul, Nat.add_comm, this]; rfl
        · cases h
      · cases h
    | _ => simp [colE] at h
theorem colsE_enc {H : Nat → SB D} {ki : IntKind} {i : E D (.int ki)} {s L : Nat} (h0 : (0 : Int) ≤ i.den) (h1 : i.den < (L : Int)) : ∀ {q : Nat} {cs out : List (SV D)}, colsE i s L q cs = some out → out.length = q ∧ ∀ j, j < q → (SV.encL m H out)[j]? = (SV.encL m H cs)[(Int.toNat i.den) * s + j]?
  | 0, _, _, h => by
    rw [colsE] at h
    injection h with h
    subst h
    exact ⟨rfl, fun j hj => absurd hj (Nat.not_lt_zero _)⟩
  | q + 1, cs, out, h => by
    rw [colsE] at h
    split at h
    · rename_i k hk
      split at h
      · rename_i es hes
        split at h
        · rename_i r hr
          injection h with h
          subst h
          obtain ⟨g1, g2⟩ := colsE_enc (H := H) h0 h1 hr
          refine ⟨by rw [List.length_cons, g1], fun j hj => ?_⟩
          cases j with
          | zero =>
            rw [Nat.add_zero, colE_enc hes _ ((Int.toNat_lt h0).2 h1), SV.encL, SV.enc]
            show some (AV.int k (List.getD (intsL es).den _ _)) = _
            rw [intsL_den]; rfl
          | succ j =>
            have := g2 j (by omega)
            rw [encL_map _ _ (cs.drop 1), List.map_drop, List.getElem?_drop, ← encL_map] at this
            rw [SV.encL, List.getElem?_cons_succ, this]
            congr 1
            omega
        · cases h
      · cases h
    · cases h
theorem elemA_ok (hT : T.ok P) (h : elemA T t (st.ev y) (st.ev z) = some (x, gd)) (hg : gd.den = true) (hd : dok d n = true) : OpR P n ⟨d, .index t y z, ty, ps, af, g⟩ (st.enc m nx) (x.enc m st.blk) := by
  have ey := enc_ev st m nx y
  have ez := enc_ev st m nx z
  generalize st.ev y = v at h ey
  generalize st.ev z = u at h ez
  unfold elemA at h
  split at h
  · rename_i k i L e hu
    split at h
    · rename_i cs Dd Z s b h2 h3
      rw [SV.enc] at ey
      rw [SV.enc] at ez
      cases hc : (aggB Dd && Nat.beq cs.length (L * s)) with
      | false => rw [hc] at h; cases h
      | true =>
        rw [hc] at h
        simp only [cond_true] at h
        rw [Bool.and_eq_true] at hc
        obtain ⟨ha, hL⟩ := hc
        have hL := Nat.eq_of_beq_eq_true hL
        split at h
        · rename_i out hout
          simp only [Option.some.injEq, Prod.mk.injEq] at h
          obtain ⟨rfl, rfl⟩ := h
          obtain ⟨h0, h1⟩ := andB hg
          have h0 : (0 : Int) ≤ i.den := of_decide_eq_true h0
          have h1 : i.den < (L : Int) := of_decide_eq_true h1
          obtain ⟨g1, g2⟩ := colsE_enc (m := m) (H := st.blk) h0 h1 hout
          refine op_index_agg ey ez (allP_at hT.und hu) (allP_at hT.und h2) (allP_at hT.inf h3) h0 h1 ?_ hd
          have hlt : (Int.toNat i.den) < L := (Int.toNat_lt h0).2 h1
          have hle : (Int.toNat i.den + 1) * s ≤ L * s := Nat.mul_le_mul_right _ hlt
          rw [Nat.add_mul, Nat.one_mul] at hle
          rw [partA, ha, if_pos rfl, if_pos (by rw [encL_length, hL]; exact hle), SV.enc]
          congr 2
          refine List.ext_getElem? fun j => ?_
          rw [List.getElem?_take]
          by_cases hj : j < s
          · rw [if_pos hj, List.getElem?_drop, g2 j hj]
          · rw [if_neg hj, List.getElem?_eq_none (by rw [encL_length, g1]; omega)]
        · cases h
    · cases h
  · cases h
theorem orN_some {a b : RS D} {r : SV D × E D .bool} (h : orN a b = some r) : a = some r ∨ b = some r := by
  unfold orN at h
  split at h
  · exact .inl h
  · exact .inr h
theorem asI_den {k : IntKind} {e : E D (.int k)} {e' : E D (.int .i64)} (h : asI e = some e') : (e'.den : Int) = e.den ∧ k = .i64 := by
  unfold asI at h
  split at h
  · rename_i hk
    subst hk
    injection h with h
    subst h
    exact ⟨rfl, rfl⟩
  · cases h
theorem bndI_ok {dflt : E D (.int .i64)} {lo : Option Operand} {e : E D (.int .i64)} (h : bndI dflt (lo.map st.ev) = some e) : BndA (st.enc m nx) (dflt.den : Int) lo (e.den : Int) ∧ (lo.isNone = true → (e.den : Int) = dflt.den) := by
  unfold bndI at h
  split at h
  · rename_i k e0 h0
    obtain ⟨h1, h2⟩ := bndE_ok (m := m) (nx := nx) h0
    obtain ⟨h3, _⟩ := asI_den h
    rw [h3]
    exact ⟨h1, h2⟩
  · cases h
theorem vwA {p q l h : Int} (g0 : 0 ≤ p) (g1 : 0 ≤ l) (g2 : l ≤ h) (g3 : h ≤ q - p) : ((q.toNat - p.toNat : Nat) : Int) = q - p ∧ (p + l).toNat = p.toNat + l.toNat ∧ (p + h).toNat - (p + l).toNat = h.toNat - l.toNat := by omega
theorem vwB {p q i : Int} (g0 : 0 ≤ p) (g1 : 0 ≤ i) (g2 : p + i < q) : i < ((q.toNat - p.toNat : Nat) : Int) ∧ (p + i).toNat = p.toNat + i.toNat := by omega
theorem vwC {p q : Int} (g0 : 0 ≤ p) (g1 : p ≤ q) : ((q.toNat - p.toNat : Nat) : Int) = q - p := by omega
theorem vwE {n L : Nat} (e : (n : Int) = (L : Int)) : L = n := by omega
theorem sliceV_ok {lo hi : Option Operand} (hT : T.ok P) (hm : MOk m nx st) (h : sliceV T st t (st.ev y) (lo.map st.ev) (hi.map st.ev) = some (x, gd)) (hg : gd.den = true) (hd : dok d n = true) : OpR P n ⟨d, .slice t y lo hi none, ty, ps, af, g⟩ (st.enc m nx) (x.enc m st.blk) := by
  have ey := enc_ev st m nx y
  have hn : (hi.map st.ev).isNone = hi.isNone := by cases hi <;> rfl
  generalize st.ev y = v at h ey
  unfold sliceV at h
  split at h
  · rename_i e hu
    split at h
    · rename_i id ver Z sz b hI
      split at h
      · rename_i fr rt xs e' v hb
        split at h
        · rename_i l hh h1 h2
          cases hc : (Nat.beq ver v && Nat.beq sz rt.size) with
          | false => rw [hc] at h; cases h
          | true =>
            rw [hc] at h
            simp only [cond_true, Option.some.injEq, Prod.mk.injEq] at h
            obtain ⟨rfl, rfl⟩ := h
            rw [Bool.and_eq_true] at hc
            have hsz := Nat.eq_of_beq_eq_true hc.2
            subst hsz
            obtain ⟨b1, _⟩ := bndI_ok (m := m) (nx := nx) h1
            obtain ⟨b2, b3⟩ := bndI_ok (m := m) (nx := nx) h2
            rw [hn] at hg
            obtain ⟨g1, g2, g3⟩ := bndG_den hg (fun ha => by rw [b3 ha]; exact Int.le_refl _)
            rw [SV.enc, rowLen_eq hb hc.1] at ey
            rw [SV.enc, rowLen_eq hb hc.1]
            have hbb := enc_blk hm (k := id) (by rw [hb]; simp)
            rw [hb, SB.enc] at hbb
            exact op_slice_osl ey hbb (rows_len _).symm b1 b2 (allP_at hT.und hu) (allP_at hT.inf hI) g1 g2 g3 hd
        · cases h
      · cases h
    · rename_i id ver p q Z sz b hI
      split at h
      · rename_i fr rt xs e' v hb
        split at h
        · rename_i l hh h1 h2
          cases hc : (Nat.beq ver v && Nat.beq sz rt.size) with
          | false => rw [hc] at h; cases h
          | true =>
            rw [hc] at h
            simp only [cond_true, Option.some.injEq, Prod.mk.injEq] at h
            obtain ⟨rfl, rfl⟩ := h
            rw [Bool.and_eq_true] at hc
            have hsz := Nat.eq_of_beq_eq_true hc.2
            subst hsz
            obtain ⟨b1, _⟩ := bndI_ok (m := m) (nx := nx) h1
            obtain ⟨b2, b3⟩ := bndI_ok (m := m) (nx := nx) h2
            rw [hn, andE_den] at hg
            obtain ⟨g0, hg⟩ := andB hg
            have g0 := leF_den g0
            have g0 : (0 : Int) ≤ p.den := g0
            obtain ⟨g1, g2, g3⟩ := bndG_den hg (fun ha => by rw [b3 ha]; exact Int.le_refl _)
            obtain ⟨el, e1, e2⟩ := vwA (p := p.den) (q := q.den) (l := l.den) (h := hh.den) g0 g1 g2 g3
            rw [SV.enc, rowLen_eq hb hc.1] at ey
            rw [SV.enc, rowLen_eq hb hc.1]
            have hbb := enc_blk hm (k := id) (by rw [hb]; simp)
            rw [hb, SB.enc] at hbb
            have b2 : BndA (st.enc m nx) (((q.den : Int).toNat - (p.den : Int).toNat : Nat) : Int) hi (hh.den : Int) := by rw [el]; exact b2
            have key := op_slice_vsl (ty := ty) (ps := ps) (af := af) (g := g) ey hbb (rows_len _).symm b1 b2 (allP_at hT.und hu) (allP_at hT.inf hI) g1 g2 (by rw [el]; exact g3) hd
            rw [← e1, ← e2] at key
            exact key
        · cases h
      · cases h
    · cases h
  · rename_i L e hu
    split at h
    · rename_i id ver ki i o Z sz b hI
      split at h
      · rename_i fr rt xs e' v hb
        split at h
        · rename_i l hh h1 h2
          cases hc : (Nat.beq ver v && i.zero? && Nat.beq o 0 && Nat.beq sz rt.size && Nat.blt 0 L) with
          | false => rw [hc] at h; cases h
          | true =>
            rw [hc] at h
            simp only [cond_true, Option.some.injEq, Prod.mk.injEq] at h
            obtain ⟨rfl, rfl⟩ := h
            simp only [Bool.and_eq_true] at hc
            obtain ⟨⟨⟨⟨c1, c2⟩, c3⟩, c4⟩, c5⟩ := hc
            have hsz := Nat.eq_of_beq_eq_true c4
            subst hsz
            have c3 := Nat.eq_of_beq_eq_true c3
            subst c3
            have c5 : 0 < L := Nat.le_of_ble_eq_true c5
            obtain ⟨b1, _⟩ := bndI_ok (m := m) (nx := nx) h1
            obtain ⟨b2, b3⟩ := bndI_ok (m := m) (nx := nx) h2
            rw [hn, andE_den] at hg
            obtain ⟨g0, hg⟩ := andB hg
            have g0 : (List.length xs.den : Int) = (L : Int) := of_decide_eq_true g0
            have g0 := vwE g0
            obtain ⟨g1, g2, g3⟩ := bndG_den (n := .len xs) hg (fun ha => by rw [b3 ha]; exact Int.le_refl _)
            have b2 : BndA (st.enc m nx) (L : Int) hi (hh.den : Int) := by rw [g0]; exact b2
            have g3 : (hh.den : Int) ≤ (L : Int) := by rw [g0]; exact g3
            rw [SV.enc, rowLen_eq hb c1] at ey
            rw [SV.enc, rowLen_eq hb c1]
            have hbb := enc_blk hm (k := id) (by rw [hb]; simp)
            rw [hb, SB.enc] at hbb
            rw [zero_den c2, ← g0] at ey
            rw [← g0]
            exact op_slice_arr ey hbb (by rw [rows_len]; exact g0) b1 b2 (allP_at hT.und hu) (allP_at hT.inf hI) g1 g2 g3 c5 hd
        · cases h
      · cases h
    · rename_i fr rt ex o Z sz b hI
      cases hc : (Nat.beq o 0 && Nat.beq sz 1 && Nat.beq rt.size L && Nat.blt 0 L && Nat.ble L 1000 && (lo.map st.ev).isNone && (hi.map st.ev).isNone) with
      | false => rw [hc] at h; cases h
      | true =>
        rw [hc] at h
        simp only [cond_true] at h
        simp only [Bool.and_eq_true] at hc
        obtain ⟨⟨⟨⟨⟨⟨c1, c2⟩, c3⟩, c4⟩, c5⟩, c6⟩, c7⟩ := hc
        have c1 := Nat.eq_of_beq_eq_true c1
        have c2 := Nat.eq_of_beq_eq_true c2
        have c3 := Nat.eq_of_beq_eq_true c3
        have c4 : 0 < L := Nat.le_of_ble_eq_true c4
        have c5 : L ≤ 1000 := Nat.le_of_ble_eq_true c5
        have c6 : lo = none := by cases lo with
          | none => rfl
          | some _ => cases c6
        have c7 : hi = none := by cases hi with
          | none => rfl
          | some _ => cases c7
        subst c1; subst c6; subst c7
        split at h
        · rename_i k hk
          split at h
          · rename_i es hes
            simp only [Option.some.injEq, Prod.mk.injEq] at h
            obtain ⟨rfl, rfl⟩ := h
            rw [SV.enc] at ey
            rw [SV.enc]
            have e1 := intsOf_eq (intsS_enc (m := m) (H := st.blk) hes)
            rw [cellsE_enc] at e1
            have e2 : (List.map ((Ty.int k).cells false) (intsL es).den : List (List AV)) = (Ty.cells fr rt ex.den).map fun a => [a] := by
              rw [e1, intsL_den, List.map_map]
              rfl
            have e3 : L = (Ty.cells fr rt ex.den).length := by rw [← c3]; exact (Ty.cells_length fr rt ex.den).symm
            have key := op_slice_peek (P := P) (n := n) (d := d) (ty := ty) (ps := ps) (af := af) (g := g) ey e3 (allP_at hT.und hu) (allP_at hT.inf hI) c2 c4 (by unfold maxLen; omega) hd
            rw [← e2] at key
            exact key
          · cases h
        · cases h
    · cases h
  · cases h
theorem idxV_ok (hT : T.ok P) (hm : MOk m nx st) (h : idxV T st t (st.ev y) (st.ev z) = some (x, gd)) (hg : gd.den = true) (hd : dok d n = true) : OpR P n ⟨d, .indexAddr t y z, ty, ps, af, g⟩ (st.enc m nx) (x.enc m st.blk) := by
  have ey := enc_ev st m nx y
  have ez := enc_ev st m nx z
  generalize st.ev y = v at h ey
  generalize st.ev z = u at h ez
  unfold idxV at h
  split at h
  · rename_i k i e hu
    split at h
    · rename_i Z sz b id ver lo hi hI
      split at h
      · rename_i fr rt xs e' v hb
        split at h
        · rename_i i' hi'
          cases hc : (Nat.beq ver v && Nat.beq sz rt.size) with
          | false => rw [hc] at h; cases h
          | true =>
            rw [hc] at h
            simp only [cond_true, Option.some.injEq, Prod.mk.injEq] at h
            obtain ⟨rfl, rfl⟩ := h
            rw [Bool.and_eq_true] at hc
            have hsz := Nat.eq_of_beq_eq_true hc.2
            obtain ⟨e1, hk⟩ := asI_den hi'
            rw [andE_den] at hg
            obtain ⟨g0, hg⟩ := andB hg
            rw [andE_den] at hg
            obtain ⟨g1, g2⟩ := andB hg
            have g0 : (0 : Int) ≤ lo.den := leF_den g0
            have g1 : (0 : Int) ≤ i'.den := leF_den g1
            have g2 : (lo.den : Int) + (i'.den : Int) < (hi.den : Int) := of_decide_eq_true g2
            obtain ⟨w1, w2⟩ := vwB (p := lo.den) (q := hi.den) (i := i'.den) g0 g1 g2
            rw [SV.enc, rowLen_eq hb hc.1] at ey
            rw [SV.enc, rowLen_eq hb hc.1]
            rw [SV.enc] at ez
            rw [← e1] at ez
            have hbb := enc_blk hm (k := id) (by rw [hb]; simp)
            rw [hb, SB.enc] at hbb
            have key := op_index_vsl (ty := ty) (ps := ps) (af := af) (g := g) ey hbb (rows_len _).symm ez (allP_at hT.und hu) (allP_at hT.inf hI) hsz g1 w1 hd
            rw [← w2] at key
            exact key
        · cases h
      · cases h
    · cases h
  · cases h
theorem lenV_ok (hT : T.ok P) (h : lenV T st t (st.ev y) = some (x, gd)) (hg : gd.den = true) (hd : dok d n = true) : OpR P n ⟨d, .call ⟨.builtin .len, ⟨[y]⟩, ⟨[t]⟩⟩, ty, ps, af, g⟩ (st.enc m nx) (x.enc m st.blk) := by
  have ey := enc_ev st m nx y
  generalize st.ev y = v at h ey
  unfold lenV at h
  split at h
  · rename_i e hu
    split at h
    · rename_i id ver lo hi
      split at h
      · rename_i fr rt xs e' v h1
        cases hv : Nat.beq ver v with
        | false => rw [hv] at h; cases h
        | true =>
          rw [hv] at h
          simp only [cond_true, Option.some.injEq, Prod.mk.injEq] at h
          obtain ⟨rfl, rfl⟩ := h
          rw [andE_den] at hg
          obtain ⟨g0, g1⟩ := andB hg
          have g0 : (0 : Int) ≤ lo.den := leF_den g0
          have g1 : (lo.den : Int) ≤ hi.den := leF_den g1
          rw [SV.enc, rowLen_eq h1 hv] at ey
          rw [SV.enc]
          have key := op_len (ty := ty) (ps := ps) (af := af) (g := g) (m := (hi.den : Int).toNat - (lo.den : Int).toNat) (by rw [ey, AV.lenA]) (allP_at hT.und hu) hd
          rw [vwC (p := lo.den) (q := hi.den) g0 g1] at key
          exact key
      · cases h
    · cases h
  · cases h
theorem rd_ok {o : Oper} (hT : T.ok P) (hm : MOk m nx st) (h : rd T st o.op = some (x, gd)) (hg : gd.den = true) (hd : dok o.dst n = true) : OpR P n o (st.enc m nx) (x.enc m st.blk) := by
  unfold rd at h
  split at h
  · rename_i r h0
    injection h with h
    subst h
    exact rd0_ok hT hm h0 hg hd
  · obtain ⟨d, op, ty, ps, af, g⟩ := o
    have hd : dok d n = true := hd
    simp only at h
    unfold rdN at h
    split at h
    · rcases orN_some h with h | h
      · exact sliceS_ok hT h hg hd
      · exact sliceV_ok hT hm h hg hd
    · exact lenV_ok hT h hg hd
    · exact catS_ok rfl rfl h hg hd
    · rcases orN_some h with h | h
      · exact idxA_ok hT hm h hg hd
      · exact idxV_ok hT hm h hg hd
    · exact loadA_ok hT hm h hg hd
    · obtain ⟨v, h1, h2⟩ := Option.map_eq_some_iff.1 h
      simp only [Prod.mk.injEq] at h2
      obtain ⟨rfl, rfl⟩ := h2
      exact buildA_ok hT h1 hd
    · exact elemA_ok hT h hg hd
    · cases h
end
end Go.Proofs.Ytedjnjgnadbkaaa
/- Decompiling: the operations that make or write memory, over terms. No program in sight. -/
namespace Go.Proofs.Ytedjnjgnadbkaaa
open Go Go.RowKit

/-! ### What a state names -/
section
variable {V : Ty → Type}
mutual
def SV.refs (pB : Nat → Bool) (pR : Nat → Nat → Bool) : SV V → Bool
  | .box id _ => pB id
  | .elt id ver _ _ => pR id ver
  | .osl id ver => pR id ver
  | .vsl id ver _ _ => pR id ver
  | .agg cs => SV.refsL pB pR cs
  | .tup cs => SV.refsL pB pR cs
  | .fn _ cs => SV.refsL pB pR cs
  | _ => true
def SV.refsL (pB : Nat → Bool) (pR : Nat → Nat → Bool) : List (SV V) → Bool
  | [] => true
  | c :: l => SV.refs pB pR c && SV.refsL pB pR l
end
def SB.refs (pB : Nat → Bool) (pR : Nat → Nat → Bool) : SB V → Bool
  | .box cs _ => SV.refsL pB pR cs
  | _ => true
def refsR (pB : Nat → Bool) (pR : Nat → Nat → Bool) : List (Nat × SV V) → Bool
  | [] => true
  | p :: l => p.2.refs pB pR && refsR pB pR l
def refsH (pB : Nat → Bool) (pR : Nat → Nat → Bool) : List (Nat × SB V) → Bool
  | [] => true
  | p :: l => p.2.refs pB pR && refsH pB pR l
def refsF (pB : Nat → Bool) (pR : Nat → Nat → Bool) : List (List (Nat × SV V)) → Bool
  | [] => true
  | p :: l => refsR pB pR p && refsF pB pR l
def SSt.refs (pB : Nat → Bool) (pR : Nat → Nat → Bool) (st : SSt V) : Bool :=
  refsR pB pR st.regs && (refsR pB pR st.kp && (refsH pB pR st.heap && (refsH pB pR st.hk && refsF pB pR st.fr)))
end
/-- from one memory to another: what may be named there says the same, or nothing -/
structure MemLe (m : Nat → Nat) (H : Nat → SB D) (m' : Nat → Nat) (H' : Nat → SB D) (pB : Nat → Bool) (pR : Nat → Nat → Bool) : Prop where
  box : ∀ id, pB id = true → isBox H' id = false ∨ (isBox H' id = isBox H id ∧ m' id = m id)
  row : ∀ id v, pR id v = true → rowLen H' id v = none ∨ (rowLen H' id v = rowLen H id v ∧ m' id = m id)
mutual
theorem enc_les {m m' : Nat → Nat} {H H' : Nat → SB D} {pB : Nat → Bool} {pR : Nat → Nat → Bool} (h : MemLe m H m' H' pB pR) : ∀ (x : SV D), x.refs pB pR = true → Les (x.enc m' H') (x.enc m H)
  | .any, _ => by rw [SV.enc]; exact .any _
  | .und, _ => by rw [SV.enc, SV.enc]; exact .refl _
  | .int .., _ => by rw [SV.enc, SV.enc]; exact .refl _
  | .bool .., _ => by rw [SV.enc, SV.enc]; exact .refl _
  | .str .., _ => by rw [SV.enc, SV.enc]; exact .refl _
  | .nilp, _ => by rw [SV.enc, SV.enc]; exact .refl _
  | .nils, _ => by rw [SV.enc, SV.enc]; exact .refl _
  | .nilf, _ => by rw [SV.enc, SV.enc]; exact .refl _
  | .pk .., _ => by rw [SV.enc, SV.enc]; exact .refl _
  | .ro .., _ => by rw [SV.enc, SV.enc]; exact .refl _
  | .box id off, hr => by
    rw [SV.refs] at hr
    rw [SV.enc, SV.enc]
    rcases h.box id hr with e | ⟨e1, e2⟩
    · rw [e]; exact .any _
    · rw [e1, e2]; exact .refl _
  | .elt id ver i off, hr => by
    rw [SV.refs] at hr
    rw [SV.enc, SV.enc]
    rcases h.row id ver hr with e | ⟨e1, e2⟩
    · rw [e]; exact .any _
    · rw [e1, e2]; exact .refl _
  | .osl id ver, hr => by
    rw [SV.refs] at hr
    rw [SV.enc, SV.enc]
    rcases h.row id ver hr with e | ⟨e1, e2⟩
    · rw [e]; exact .any _
    · rw [e1, e2]; exact .refl _
  | .vsl id ver lo hi, hr => by
    rw [SV.refs] at hr
    rw [SV.enc, SV.enc]
    rcases h.row id ver hr with e | ⟨e1, e2⟩
    · rw [e]; exact .any _
    · rw [e1, e2]; exact .refl _
  | .agg cs, hr => by
    rw [SV.refs] at hr
    rw [SV.enc, SV.enc]; exact .agg (encL_les h cs hr)
  | .tup cs, hr => by
    rw [SV.refs] at hr
    rw [SV.enc, SV.enc]; exact .tup (encL_les h cs hr)
  | .fn f cs, hr => by
    rw [SV.refs] at hr
    rw [SV.enc, SV.enc]; exact .fn f (encL_les h cs hr)
theorem encL_les {m m' : Nat → Nat} {H H' : Nat → SB D} {pB : Nat → Bool} {pR : Nat → Nat → Bool} (h : MemLe m H m' H' pB pR) : ∀ (l : List (SV D)), SV.refsL pB pR l = true → LesL (SV.encL m' H' l) (SV.encL m H l)
  | [], _ => by rw [SV.encL, SV.encL]; exact .nil
  | c :: l, hr => by
    rw [SV.refsL, Bool.and_eq_true] at hr
    rw [SV.encL, SV.encL]
    exact .cons (enc_les h c hr.1) (encL_les h l hr.2)
end
section
variable {m m' : Nat → Nat} {H H' : Nat → SB D} {pB : Nat → Bool} {pR : Nat → Nat → Bool}
theorem encB_les (h : MemLe m H m' H' pB pR) (b : SB D) (hr : b.refs pB pR = true) : LesB (b.enc m' H') (b.enc m H) := by
  cases b with
  | dead => exact .dead _
  | box cs e => rw [SB.refs] at hr; exact .box e (encL_les h cs hr)
  | row => exact .refl _
theorem encR_les (h : MemLe m H m' H' pB pR) : ∀ (l : List (Nat × SV D)), refsR pB pR l = true → ∀ d, Les (look .any (encR m' H' l) d) (look .any (encR m H l) d)
  | [], _, d => .refl _
  | (j, x) :: l, hr, d => by
    rw [refsR, Bool.and_eq_true] at hr
    show Les (look .any ((j, x.enc m' H') :: encR m' H' l) d) (look .any ((j, x.enc m H) :: encR m H l) d)
    rw [look_cons, look_cons]
    split
    · exact enc_les h x hr.1
    · exact encR_les h l hr.2 d
theorem encH_les (h : MemLe m H m' H' pB pR) : ∀ (l : List (Nat × SB D)), refsH pB pR l = true → (∀ p ∈ l, m' p.1 = m p.1) → ∀ d, LesB (look .dead (encH m' H' l) d) (look .dead (encH m H l) d)
  | [], _, _, d => .refl _
  | (j, x) :: l, hr, hm, d => by
    rw [refsH, Bool.and_eq_true] at hr
    show LesB (look .dead ((m' j, x.enc m' H') :: encH m' H' l) d) (look .dead ((m j, x.enc m H) :: encH m H l) d)
    rw [look_cons, look_cons, hm (j, x) (by simp)]
    split
    · exact encB_les h x hr.1
    · exact encH_les h l hr.2 (fun p hp => hm p (List.mem_cons_of_mem _ hp)) d
theorem refsR_append (l r : List (Nat × SV D)) : refsR pB pR (l ++ r) = (refsR pB pR l && refsR pB pR r) := by
  induction l with
  | nil => rfl
  | cons p l ih => rw [List.cons_append, refsR, refsR, ih, Bool.and_assoc]
theorem refsH_append (l r : List (Nat × SB D)) : refsH pB pR (l ++ r) = (refsH pB pR l && refsH pB pR r) := by
  induction l with
  | nil => rfl
  | cons p l ih => rw [List.cons_append, refsH, refsH, ih, Bool.and_assoc]
theorem refsR_all (l : List (Nat × SV D)) (h : ∀ x : SV D, x.refs pB pR = true) : refsR pB pR l = true := by
  induction l with
  | nil => rfl
  | cons p l ih => rw [refsR, h, ih]; rfl
end
/-! ### States: what they say of abstract ones -/
structure FrOk (m : Nat → Nat) (H : Nat → SB D) (fr : List (List (Nat × SV D))) (F : List (Nat → AV)) : Prop where
  len : fr.length = F.length
  les : ∀ (i : Nat) (l : List (Nat × SV D)) (f : Nat → AV), fr[i]? = some l → F[i]? = some f → ∀ d, Les ((look .any l d).enc m H) (f d)
/-- wherever one state fits the other does -/
structure RLe (s s' : ASt) : Prop where
  ok : ∀ {K : Kn} {n : Nat} {a : Act} {w : World}, Rel K n s a w → Rel K n s' a w
theorem LeS.rle {s s' : ASt} (h : LeS s' s) : RLe s s' := ⟨fun r => r.les h⟩
theorem RLe.refl (s : ASt) : RLe s s := ⟨fun r => r⟩
theorem RLe.trans {a b c : ASt} (h : RLe a b) (k : RLe b c) : RLe a c := ⟨fun r => k.ok (h.ok r)⟩
structure StL (F : List (Nat → AV)) (st : SSt D) (s : ASt) : Prop where
  ex : ∃ m nx, MOk m nx st ∧ RLe s (st.enc m nx) ∧ FrOk m st.blk st.fr F
theorem refsF_at {pB : Nat → Bool} {pR : Nat → Nat → Bool} : ∀ {fr : List (List (Nat × SV D))}, refsF pB pR fr = true → ∀ {i : Nat} {l : List (Nat × SV D)}, fr[i]? = some l → refsR pB pR l = true
  | [], _, i, l, h => by simp at h
  | p :: fr, hr, i, l, h => by
    rw [refsF, Bool.and_eq_true] at hr
    cases i with
    | zero => simp at h; subst h; exact hr.1
    | succ i => exact refsF_at hr.2 (by simpa using h)
theorem refsR_look {pB : Nat → Bool} {pR : Nat → Nat → Bool} : ∀ {l : List (Nat × SV D)}, refsR pB pR l = true → ∀ d, (look .any l d).refs pB pR = true
  | [], _, d => by show SV.refs pB pR SV.any = true; rw [SV.refs] <;> simp
  | (j, x) :: l, h, d => by
    rw [refsR, Bool.and_eq_true] at h
    rw [look_cons]
    split
    · exact h.1
    · exact refsR_look h.2 d
theorem FrOk.les' {m m' : Nat → Nat} {H H' : Nat → SB D} {pB : Nat → Bool} {pR : Nat → Nat → Bool} {fr : List (List (Nat × SV D))} {F : List (Nat → AV)} (h : FrOk m H fr F) (hm : MemLe m H m' H' pB pR) (hr : refsF pB pR fr = true) : FrOk m' H' fr F :=
  ⟨h.len, fun i l f h1 h2 d => (enc_les hm _ (refsR_look (refsF_at hr h1) d)).trans (h.les i l f h1 h2 d)⟩
section
variable {P : Program} {n : Nat} {F : List (Nat → AV)} {st : SSt D} {s : ASt}
theorem hset_blk (st : SSt D) (id : Nat) (b : SB D) (k : Nat) : (st.hset id b).blk k = if id = k then b else st.blk k := by
  show look (look .dead st.hk k) ((id, b) :: st.heap) k = _
  rw [look_cons]; rfl
theorem hnew_blk (st : SSt D) (b : SB D) (k : Nat) : (st.hnew b).blk k = if st.nx = k then b else st.blk k := by
  show look (look .dead st.hk k) ((st.nx, b) :: st.heap) k = _
  rw [look_cons]; rfl
/-- one block turned -/
theorem hset_les {m : Nat → Nat} {nx id : Nat} {b : SB D} {b' : AB} {pB : Nat → Bool} {pR : Nat → Nat → Bool} (hm : MOk m nx st) (hl : LeS (st.enc m nx) s) (hid : st.blk id ≠ .dead) (hbd : b ≠ .dead) (hc : MemLe m st.blk m (st.hset id b).blk pB pR) (hr : st.refs pB pR = true) (hb : LesB (b.enc m (st.hset id b).blk) b') (hf : FrOk m st.blk st.fr F) :
    MOk m nx (st.hset id b) ∧ LeS ((st.hset id b).enc m nx) (s.hset (m id) b') ∧ FrOk m (st.hset id b).blk (st.hset id b).fr F := by
  unfold SSt.refs at hr
  simp only [Bool.and_eq_true] at hr
  obtain ⟨r1, r2, r3, r4, r5⟩ := hr
  have hlv : ∀ k, (st.hset id b).blk k ≠ .dead → st.blk k ≠ .dead := by
    intro k hk
    rw [hset_blk] at hk
    by_cases e : id = k
    · subst e; exact hid
    · rw [if_neg e] at hk; exact hk
  refine ⟨⟨fun k hk => hm.lt k (hlv k hk), fun k k' hk hk' e => hm.inj k k' (hlv k hk) (hlv k' hk') e, fun p hp => ?_⟩, ⟨fun d => ?_, fun k => ?_, hl.nx⟩, hf.les' hc r5⟩
  · rcases List.mem_cons.1 hp with rfl | hp
    · exact ⟨hm.live hid, hbd⟩
    · exact hm.keys p hp
  · have e1 : (st.hset id b).regs ++ (st.hset id b).kp = st.regs ++ st.kp := rfl
    show Les (look .any (encR m (st.hset id b).blk ((st.hset id b).regs ++ (st.hset id b).kp)) d) _
    rw [e1]
    exact (encR_les hc _ (by rw [refsR_append, r1, r2]; rfl) d).trans (hl.regs d)
  · show LesB (look .dead ((m id, b.enc m (st.hset id b).blk) :: encH m (st.hset id b).blk (st.heap ++ st.hk)) k) (look .dead ((m id, b') :: s.heap) k)
    rw [look_cons, look_cons]
    split
    · exact hb
    · exact (encH_les hc _ (by rw [refsH_append, r3, r4]; rfl) (fun _ _ => rfl) k).trans (hl.heap k)
/-- a new block -/
theorem hnew_les' {m : Nat → Nat} {nx : Nat} {b : SB D} {b' : AB} (hm : MOk m nx st) (hl : LeS (st.enc m nx) s) (hf : FrOk m st.blk st.fr F) (hbd : b ≠ .dead) (hr : st.refs (fun id => !Nat.beq id st.nx) (fun id _ => !Nat.beq id st.nx) = true) (hb : ∀ m', MemLe m st.blk m' (st.hnew b).blk (fun id => !Nat.beq id st.nx) (fun id _ => !Nat.beq id st.nx) → LesB (b.enc m' (st.hnew b).blk) b') :
    ∃ m' nx', MOk m' nx' (st.hnew b) ∧ LeS ((st.hnew b).enc m' nx') (s.hnew b') ∧ FrOk m' (st.hnew b).blk (st.hnew b).fr F ∧ m' st.nx = s.nx ∧ (∀ k, k ≠ st.nx → m' k = m k) ∧ MemLe m st.blk m' (st.hnew b).blk (fun id => !Nat.beq id st.nx) (fun id _ => !Nat.beq id st.nx) := by
  have hnx : nx = s.nx := hl.nx
  let m' : Nat → Nat := fun k => if k = st.nx then nx else m k
  have hm' : ∀ k, k ≠ st.nx → m' k = m k := fun k h => by simp only [m']; rw [if_neg h]
  have hc : MemLe m st.blk m' (st.hnew b).blk (fun id => !Nat.beq id st.nx) (fun id _ => !Nat.beq id st.nx) := by
    have hne : ∀ id, (!Nat.beq id st.nx) = true → id ≠ st.nx := by
      intro id h e
      subst e
      have h : (!Nat.beq st.nx st.nx) = true := h
      rw [Nat.beq_refl] at h; cases h
    refine ⟨fun id h => .inr ?_, fun id v h => .inr ?_⟩
    · have := hne id h
      refine ⟨?_, hm' id this⟩
      unfold isBox; rw [hnew_blk, if_neg (Ne.symm this)]
    · have := hne id h
      refine ⟨?_, hm' id this⟩
      unfold rowLen; rw [hnew_blk, if_neg (Ne.symm this)]
  unfold SSt.refs at hr
  simp only [Bool.and_eq_true] at hr
  obtain ⟨r1, r2, r3, r4, r5⟩ := hr
  have hdead : st.blk st.nx = .dead := Classical.byContradiction fun e => Nat.lt_irrefl _ (hm.live e)
  have hlv : ∀ k, (st.hnew b).blk k ≠ .dead → k ≠ st.nx → st.blk k ≠ .dead := by
    intro k hk e
    rw [hnew_blk, if_neg (Ne.symm e)] at hk; exact hk
  have e0' : m' st.nx = nx := (if_pos rfl : (if st.nx = st.nx then nx else m st.nx) = nx)
  refine ⟨m', nx + 1, ⟨fun k hk => ?_, fun k k' hk hk' e => ?_, fun p hp => ?_⟩, ⟨fun d => ?_, fun k => ?_, ?_⟩, hf.les' hc r5, ?_, hm', hc⟩
  · by_cases e : k = st.nx
    · rw [e, e0']; omega
    · rw [hm' k e]; have := hm.lt k (hlv k hk e); omega
  · by_cases e1 : k = st.nx
    · by_cases e2 : k' = st.nx
      · omega
      · rw [hm' k' e2, e1, e0'] at e
        have := hm.lt k' (hlv k' hk' e2)
        omega
    · by_cases e2 : k' = st.nx
      · rw [hm' k e1, e2, e0'] at e
        have := hm.lt k (hlv k hk e1)
        omega
      · rw [hm' k e1, hm' k' e2] at e
        exact hm.inj k k' (hlv k hk e1) (hlv k' hk' e2) e
  · show p.1 < st.nx + 1 ∧ p.2 ≠ .dead
    rcases List.mem_cons.1 hp with rfl | hp
    · exact ⟨Nat.lt_succ_self _, hbd⟩
    · have := hm.keys p hp; exact ⟨by omega, this.2⟩
  · show Les (look .any (encR m' (st.hnew b).blk (st.regs ++ st.kp)) d) _
    exact (encR_les hc _ (by rw [refsR_append, r1, r2]; rfl) d).trans (hl.regs d)
  · show LesB (look .dead ((m' st.nx, b.enc m' (st.hnew b).blk) :: encH m' (st.hnew b).blk (st.heap ++ st.hk)) k) (look .dead ((s.nx, b') :: s.heap) k)
    have e0 : m' st.nx = s.nx := (if_pos rfl : (if st.nx = st.nx then nx else m st.nx) = nx).trans hnx
    rw [look_cons, look_cons, e0]
    split
    · exact hb m' hc
    · refine (encH_les hc _ (by rw [refsH_append, r3, r4]; rfl) (fun p hp => hm' p.1 ?_) k).trans (hl.heap k)
      have := (hm.keys p hp).1; omega
  · show nx + 1 = s.nx + 1; omega
  · exact (if_pos rfl : (if st.nx = st.nx then nx else m st.nx) = nx).trans hnx
theorem hnew_les {m : Nat → Nat} {nx : Nat} {b : SB D} {b' : AB} (hm : MOk m nx st) (hl : LeS (st.enc m nx) s) (hf : FrOk m st.blk st.fr F) (hbd : b ≠ .dead) (hr : st.refs (fun id => !Nat.beq id st.nx) (fun id _ => !Nat.beq id st.nx) = true) (hb : ∀ m', MemLe m st.blk m' (st.hnew b).blk (fun id => !Nat.beq id st.nx) (fun id _ => !Nat.beq id st.nx) → LesB (b.enc m' (st.hnew b).blk) b') :
    ∃ m' nx', MOk m' nx' (st.hnew b) ∧ LeS ((st.hnew b).enc m' nx') (s.hnew b') ∧ FrOk m' (st.hnew b).blk (st.hnew b).fr F ∧ m' st.nx = s.nx := by
  obtain ⟨m', nx', h1, h2, h3, h4, _⟩ := hnew_les' hm hl hf hbd hr hb
  exact ⟨m', nx', h1, h2, h3, h4⟩
theorem ev_refs {pB : Nat → Bool} {pR : Nat → Nat → Bool} (h : st.refs pB pR = true) (x : Operand) : (st.ev x).refs pB pR = true := by
  unfold SSt.refs at h
  simp only [Bool.and_eq_true] at h
  cases x with
  | tmp t =>
    show (st.get t).refs pB pR = true
    unfold SSt.get
    rw [← look_append]
    exact refsR_look (by rw [refsR_append, h.1, h.2.1]; rfl) t
  | const v =>
    show (svOf v).refs pB pR = true
    unfold svOf
    split <;> (rw [SV.refs] <;> simp)
  | global g => show SV.refs pB pR .any = true; rw [SV.refs] <;> simp
  | func f => show SV.refs pB pR (.fn f []) = true; rw [SV.refs, SV.refsL]
theorem cells_refs {pB : Nat → Bool} {pR : Nat → Nat → Bool} {x : SV D} (h : x.refs pB pR = true) : SV.refsL pB pR x.cells = true := by
  cases x with
  | agg cs => rw [SV.refs] at h; exact h
  | _ => show (SV.refs pB pR _ && SV.refsL pB pR []) = true; rw [h, SV.refsL]; rfl
end
end Go.Proofs.Ytedjnjgnadbkaaa
/- Decompiling: one function for the operations that make or write memory. No program in sight. -/
namespace Go.Proofs.Ytedjnjgnadbkaaa
open Go Go.RowKit

section
variable {V : Ty → Type}
/-! ### Cells as data -/
def exC (fr : Bool) : (t : Ty) → List (SV V) → Option (E V t × List (SV V))
  | .int k, .int k' e :: l => if h : k' = k then some (h ▸ e, l) else none
  | .bool, .bool e :: l => some (e, l)
  | .str, .str e :: l => some (e, l)
  | .list t, .ro fr' t' e :: l => bif !fr || fr' then (match Ty.eqd t' t with
    | some ⟨h⟩ => some (h ▸ e, l)
    | none => none) else none
  | .list t, .nils :: l => some (.nil t, l)
  | .unit, l => some (.uni, l)
  | .pair a b, l => match exC fr a l with
    | some (x, l') => match exC fr b l' with
      | some (y, l'') => some (.pair x y, l'')
      | none => none
    | none => none
  | .agg t, l => match exC fr t l with
    | some (x, l') => some (.aggI x, l')
    | none => none
  | _, _ => none
/-- all cells -/
def exA (fr : Bool) (t : Ty) (l : List (SV V)) : Option (E V t) := match exC fr t l with
  | some (x, []) => some x
  | _ => none
def exRows (fr : Bool) (t : Ty) : List (List (SV V)) → Option (E V (.list t))
  | [] => some (.nil t)
  | r :: l => match exA fr t r, exRows fr t l with
    | some x, some xs => some (.cons x xs)
    | _, _ => none
/-- the elements' type -/
def tyFs (f : TypeId → Option Ty) : List Field → Option Ty
  | [] => some .unit
  | [a] => f a.type
  | a :: l => match f a.type, tyFs f l with
    | some x, some y => some (.pair x y)
    | _, _ => none
def tyRep (t : Ty) : Nat → Ty
  | 0 => .unit
  | 1 => t
  | n + 1 => .pair t (tyRep t n)
def tyT (T : Tab) : Nat → TypeId → Option Ty
  | 0, _ => none
  | f + 1, t => match lk T.und t with
    | some (.int k) => some (.int k)
    | some .bool => some .bool
    | some .string => some .str
    | some (.slice e) => (tyT T f e).map .list
    | some (.struct ⟨fs⟩) => tyFs (tyT T f) fs
    | some (.array n e) => (tyT T f e).map fun t => tyRep t n
    | _ => none
def chunkS (sz : Nat) : Nat → List (SV V) → List (List (SV V))
  | 0, _ => []
  | k + 1, cs => cs.take sz :: chunkS sz k (cs.drop sz)
def zerosS (zs : List (SV V)) : Nat → List (SV V)
  | 0 => []
  | k + 1 => zs ++ zerosS zs k
def sameOp : Operand → Operand → Bool
  | .tmp a, .tmp b => Nat.beq a b
  | .const (.int _ a), .const (.int _ b) => decide (a = b)
  | _, _ => false
def E.lit? {k : IntKind} (e : E V (.int k)) : Option Int := match e with
  | .iL _ n => some n
  | _ => none
def leE {k k' : IntKind} (a : E V (.int k)) (b : E V (.int k')) : E V .bool := match a.lit?, b.lit? with
  | some x, some y => .bL (decide (x ≤ y))
  | _, _ => .ic .le a b
def mulL {k : IntKind} (b : Nat) (a : E V (.int k)) : E V (.int k) := match a.lit? with
  | some x => .iL k (b * x)
  | none => .ib .mul (.iL k b) a
/-! ### What an operation does to memory -/
inductive MR (V : Ty → Type) where
  | new (b : SB V) (row : Bool)
  | newA (b : SB V)
  | upd (id : Nat) (b : SB V) (ref : Option (SV V))
def MR.app (st : SSt V) (d : Option Nat) : MR V → SSt V
  | .new b row => (st.hnew b).put d (bif row then .osl st.nx 0 else .box st.nx 0)
  | .newA b => (st.hnew b).put d (.elt st.nx 0 (.iL .i64 0) 0)
  | .upd id b ref => match ref with
    | some r => (st.hset id b).put d r
    | none => st.hset id b
abbrev MO (V : Ty → Type) := Option (MR V × E V .bool)
def allocS (T : Tab) (e : TypeId) : MO V := match lk T.inf e with
  | some (some z, _, _) => bif allOne (z.cells.toList.map avOf) then some (.new (.box (zeroS z) e) false, okT) else none
  | _ => none
def boxS (st : SSt V) (e : TypeId) (x : SV V) : MO V := bif allOneS st x.cells then some (.new (.box x.cells e) false, okT) else none
def storeS (T : Tab) (st : SSt V) (t : TypeId) (a v : SV V) : MO V := match lk T.inf t with
  | some (_, s, _) => bif allOneS st v.cells && Nat.beq v.cells.length s then (match a with
    | .box id o => match st.blk id with
      | .box cs e => bif Nat.ble (o + s) cs.length then some (.upd id (.box (setRS cs o v.cells) e) none, okT) else none
      | _ => none
    | .elt id ver i o => match st.blk id with
      | .row fr ty xs e ver' => bif Nat.beq ver ver' && Nat.ble (o + s) ty.size then (match exA fr ty (setRS (cellsE fr ty (.at xs i)) o v.cells) with
        | some x => some (.upd id (.row fr ty (.set xs i x) e ver') none, okT)
        | none => match exA false ty (setRS (cellsE fr ty (.at xs i)) o v.cells) with
          | some x => some (.upd id (.row false ty (.set xs i x) e ver') none, okT)
          | none => none) else none
      | _ => none
    | _ => none) else none
  | none => none
def makeS (T : Tab) (t : TypeId) (x y : Operand) (l c : SV V) : MO V := match lk T.und t, l, c with
  | some (.slice e), .int _ L, .int _ C => match lk T.inf e, tyT T 8 e with
    | some (some z, sz, b), some ty => bif allOne (z.cells.toList.map avOf) && Nat.beq (z.cells.toList.map avOf).length sz && Nat.blt 0 sz && Nat.blt 0 b then
        (match exA true ty (zeroS z) with
          | some x0 => some (.new (.row true ty (.rep L x0) e 0) true, andE (bif sameOp x y then okT else leE L C) (andE (leE (.iL .i64 0) L) (bif sameOp x y then leE (mulL b L) (.iL .i64 281474976710656) else leE (mulL b C) (.iL .i64 281474976710656))))
          | none => none) else none
    | _, _ => none
  | _, _, _ => none
def litRow (ty : Ty) (e : TypeId) (rows : List (List (SV V))) : MO V := match exRows true ty rows with
  | some xs => some (.new (.row true ty xs e 0) true, okT)
  | none => match exRows false ty rows with
    | some xs => some (.new (.row false ty xs e 0) true, okT)
    | none => none
def litS (T : Tab) (st : SSt V) (t : TypeId) (L : Nat) (parts : Array (Nat × Operand)) : MO V := match lk T.und t with
  | some (.slice e) => match lk T.inf e, tyT T 8 e with
    | some (some z, sz, _), some ty => bif allOne (z.cells.toList.map avOf) && Nat.beq (z.cells.toList.map avOf).length sz && Nat.blt 0 sz && Nat.ble (L * sz) 16777216 && Nat.beq ty.size sz then
        (match fillS st (fun i => some (i * sz, sz)) (zerosS (zeroS z) L) (evPartsS st parts.toList) with
        | some out => bif Nat.beq out.length (L * sz) then litRow ty e (chunkS sz L out) else none
        | none => none) else none
    | _, _ => none
  | _ => none
def srcS (st : SSt V) (t : Ty) : SV V → Option (Bool × E V (.list t))
  | .ro fr t' xs => match Ty.eqd t' t with
    | some ⟨h⟩ => some (fr, h ▸ xs)
    | none => none
  | .osl id ver => match st.blk id with
    | .row fr t' xs _ v => bif Nat.beq ver v then (match Ty.eqd t' t with
      | some ⟨h⟩ => some (fr, h ▸ xs)
      | none => none) else none
    | _ => none
  | .nils => some (true, .nil t)
  | _ => none
/-- what may be copied -/
def srcC (st : SSt V) (t : Ty) (x : SV V) : Option (Bool × E V (.list t)) := match x with
  | .vsl id ver lo hi => match st.blk id with
    | .row fr t' xs _ v => bif Nat.beq ver v then (match Ty.eqd t' t with
      | some ⟨h⟩ => some (fr, .sub (h ▸ xs) lo hi)
      | none => none) else none
    | _ => none
  | x => srcS st t x
def appS (T : Tab) (st : SSt V) (t : TypeId) (x y : SV V) : MO V := match lk T.und t with
  | some (.slice e) => match lk T.inf e with
    | some (some z, sz, b) => bif Nat.beq z.cells.size sz && Nat.blt 0 sz then (match x with
      | .osl id ver => match st.blk id with
        | .row fr ty xs e' v => bif Nat.beq ver v && (Nat.beq e' e && (Nat.beq sz ty.size && ty.flat)) then (match srcC st ty y with
          | some (fr', ys) => bif st.refs (fun _ => true) (fun i w => !(Nat.beq i id && Nat.beq w (v + 1))) then
              some (.upd id (.row (fr && fr') ty (.app xs ys) e (v + 1)) (some (.osl id (v + 1))), leE (.ib .mul (.ib .add (.len xs) (.len ys)) (.iL .i64 (bmul b : Nat))) (.iL .i64 140737488355328)) else none
          | none => none) else none
        | _ => none
      | .nils => match tyT T 8 e with
        | some ty => bif Nat.beq sz ty.size && ty.flat then (match srcC st ty y with
          | some (fr', ys) => some (.new (.row fr' ty ys e 0) true, leE (.ib .mul (.len ys) (.iL .i64 (bmul b : Nat))) (.iL .i64 140737488355328))
          | none => none) else none
        | none => none
      | _ => none) else none
    | _ => none
  | _ => none
def mem0 (T : Tab) (st : SSt V) (d : Option Nat) : Op → MO V
  | .alloc e => allocS T e
  | .box e x => boxS st e (st.ev x)
  | .store t a v => match d with
    | none => storeS T st t (st.ev a) (st.ev v)
    | some _ => none
  | .makeSlice t x y => makeS T t x y (st.ev x) (st.ev y)
  | .buildSlice t L parts => litS T st t L parts
  | .call ⟨.builtin .append, ⟨[x, y]⟩, ⟨[t, t']⟩⟩ => bif Nat.beq t' t then appS T st t (st.ev x) (st.ev y) else none
  | _ => none
/-! arrays in boxes are rows -/
def arrRow (T : Tab) (e : TypeId) (cs : List (SV V)) : MO V := match lk T.und e with
  | some (.array L el) => match lk T.inf el, tyT T 8 el with
    | some (_, sz, _), some ty => bif Nat.beq ty.size sz && Nat.blt 0 sz && Nat.blt 0 L && Nat.ble L 65536 && Nat.beq cs.length (L * sz) then (match exRows true ty (chunkS sz L cs) with
      | some xs => some (.newA (.row true ty xs e 0), okT)
      | none => match exRows false ty (chunkS sz L cs) with
        | some xs => some (.newA (.row false ty xs e 0), okT)
        | none => none) else none
    | _, _ => none
  | _ => none
def allocA (T : Tab) (e : TypeId) : MO V := match lk T.inf e with
  | some (some z, _, _) => bif allOne (z.cells.toList.map avOf) then arrRow T e (zeroS z) else none
  | _ => none
def boxA (T : Tab) (st : SSt V) (e : TypeId) (x : SV V) : MO V := bif allOneS st x.cells then arrRow T e x.cells else none
def storeA (T : Tab) (st : SSt V) (t : TypeId) (a v : SV V) : MO V := match lk T.und t, lk T.inf t, a with
  | some (.array L _), some (_, s, _), .elt id ver i o => match st.blk id with
    | .row fr ty xs e ver' => bif Nat.beq ver ver' && i.zero? && Nat.beq o 0 && Nat.blt 0 L && Nat.beq s (L * ty.size) && allOneS st v.cells && Nat.beq v.cells.length s then (match exRows fr ty (chunkS ty.size L v.cells) with
      | some xs' => some (.upd id (.row fr ty xs' e ver') none, .ic .eq (.len xs) (.iL .i64 L))
      | none => none) else none
    | _ => none
  | _, _, _ => none
def copyS (T : Tab) (st : SSt V) (t : TypeId) (x y : SV V) : MO V := match lk T.und t with
  | some (.slice e) => match lk T.inf e, x with
    | some (_, sz, _), .osl id ver => match st.blk id with
      | .row fr ty xs e' v => bif Nat.beq ver v && (Nat.beq sz ty.size && ty.flat) then (match srcC st ty y with
        | some (fr', ys) => some (.upd id (.row (fr && fr') ty (.app (.sub ys (.iL .i64 0) (.ib .min (.len ys) (.len xs))) (.sub xs (.ib .min (.len ys) (.len xs)) (.len xs))) e' v) (some (.int .i64 (.ib .min (.len ys) (.len xs)))), okT)
        | none => none) else none
      | _ => none
    | _, _ => none
  | _ => none
def memN (T : Tab) (st : SSt V) (d : Option Nat) : Op → MO V
  | .alloc e => allocA T e
  | .box e x => boxA T st e (st.ev x)
  | .store t a v => match d with
    | none => storeA T st t (st.ev a) (st.ev v)
    | some _ => none
  | .call ⟨.builtin .copy, ⟨[x, y]⟩, ⟨[t, _]⟩⟩ => copyS T st t (st.ev x) (st.ev y)
  | _ => none
def mem (T : Tab) (st : SSt V) (d : Option Nat) (o : Op) : MO V := match memN T st d o with
  | some r => some r
  | none => mem0 T st d o
/-- a row of the call's own cut short: x = x[:k] -/
def truncS (T : Tab) (st : SSt V) : Op → MO V
  | .slice t x lo hi none => match lk T.und t with
    | some (.slice e) => match st.ev x, lk T.inf e with
      | .osl id ver, some (_, sz, _) => match st.blk id with
        | .row fr ty xs e' v => match bndI (.iL .i64 0) (lo.map st.ev), bndI (.len xs) (hi.map st.ev) with
          | some l, some h => bif Nat.beq ver v && (Nat.beq sz ty.size && (l.zero? && st.refs (fun _ => true) (fun i w => !(Nat.beq i id && Nat.beq w (v + 1))))) then
              some (.upd id (.row fr ty (.sub xs (.iL .i64 0) h) e' (v + 1)) (some (.osl id (v + 1))), bndG (.iL .i64 0 : E V (.int .i64)) h (.len xs) hi.isNone) else none
          | _, _ => none
        | _ => none
      | _, _ => none
    | _ => none
  | _ => none
/-- the state behind it -/
def memSt (st : SSt V) (d : Option Nat) (r : MR V) : Option (SSt V) := match r with
  | .new b row => bif st.refs (fun id => !Nat.beq id st.nx) (fun id _ => !Nat.beq id st.nx) then some (MR.app st d (.new b row)) else none
  | .newA b => bif st.refs (fun id => !Nat.beq id st.nx) (fun id _ => !Nat.beq id st.nx) then some (MR.app st d (.newA b)) else none
  | r => some (MR.app st d r)
end
/-! ### Cells as data: what that says -/
section
variable {m : Nat → Nat} {H : Nat → SB D}
theorem exC_ok (fr : Bool) : ∀ (t : Ty) (cs : List (SV D)) (e : E D t) (rest : List (SV D)), exC fr t cs = some (e, rest) → ∃ pre, cs = pre ++ rest ∧ LesL (t.cells fr e.den) (SV.encL m H pre)
  | .int k, cs, e, rest, h => by
    cases cs with
    | nil => rw [exC] at h; cases h; all_goals simp
    | cons c l =>
      cases c <;> simp only [exC, reduceCtorEq] at h
      split at h
      · rename_i k' e' hk
        subst hk
        simp only [Option.some.injEq, Prod.mk.injEq] at h
        obtain ⟨rfl, rfl⟩ := h
        exact ⟨[.int k' e'], rfl, by rw [SV.encL, SV.encL, SV.enc, Ty.cells]; exact .refl _⟩
      · cases h
  | .bool, cs, e, rest, h => by
    cases cs with
    | nil => rw [exC] at h; cases h; all_goals simp
    | cons c l =>
      cases c <;> simp only [exC, reduceCtorEq, Option.some.injEq, Prod.mk.injEq] at h
      obtain ⟨rfl, rfl⟩ := h
      rename_i e'
      exact ⟨[.bool e'], rfl, by rw [SV.encL, SV.encL, SV.enc, Ty.cells]; exact .refl _⟩
  | .str, cs, e, rest, h => by
    cases cs with
    | nil => rw [exC] at h; cases h; all_goals simp
    | cons c l =>
      cases c <;> simp only [exC, reduceCtorEq, Option.some.injEq, Prod.mk.injEq] at h
      obtain ⟨rfl, rfl⟩ := h
      rename_i e'
      exact ⟨[.str e'], rfl, by rw [SV.encL, SV.encL, SV.enc, Ty.cells]; exact .refl _⟩
  | .list t, cs, e, rest, h => by
    cases cs with
    | nil => rw [exC] at h; cases h; all_goals simp
    | cons c l =>
      cases c <;> simp only [exC, reduceCtorEq, Option.some.injEq, Prod.mk.injEq] at h
      · obtain ⟨rfl, rfl⟩ := h
        exact ⟨[.nils], rfl, by rw [SV.encL, SV.encL, SV.enc, Ty.cells]; exact .cons (.nilro fr t.size) .nil⟩
      · rename_i fr' t' e'
        cases hc : (!fr || fr') with
        | false => rw [hc] at h; cases h
        | true =>
          rw [hc] at h
          simp only [cond_true] at h
          split at h
          · rename_i ht _
            subst ht
            simp only [Option.some.injEq, Prod.mk.injEq] at h
            obtain ⟨rfl, rfl⟩ := h
            refine ⟨[.ro fr' t' e'], rfl, ?_⟩
            rw [SV.encL, SV.encL, SV.enc, Ty.cells]
            refine .cons ?_ .nil
            cases fr <;> cases fr' <;> first | exact .refl _ | (cases hc; done) | exact .unfr _ _
          · cases h
  | .unit, cs, e, rest, h => by
    rw [exC] at h
    simp only [Option.some.injEq, Prod.mk.injEq] at h
    obtain ⟨rfl, rfl⟩ := h
    exact ⟨[], rfl, by rw [SV.encL, Ty.cells]; exact .nil⟩
  | .pair a b, cs, e, rest, h => by
    rw [exC] at h
    split at h
    · rename_i x l' h1
      split at h
      · rename_i y l'' h2
        simp only [Option.some.injEq, Prod.mk.injEq] at h
        obtain ⟨rfl, rfl⟩ := h
        obtain ⟨p1, e1, g1⟩ := exC_ok fr a cs x l' h1
        obtain ⟨p2, e2, g2⟩ := exC_ok fr b l' y l'' h2
        refine ⟨p1 ++ p2, by rw [e1, e2, List.append_assoc], ?_⟩
        rw [encL_map, List.map_append, ← encL_map, ← encL_map, Ty.cells]
        exact g1.append g2
      · cases h
    · cases h
  | .agg t, cs, e, rest, h => by
    rw [exC] at h
    split at h
    · rename_i x l' h1
      simp only [Option.some.injEq, Prod.mk.injEq] at h
      obtain ⟨rfl, rfl⟩ := h
      obtain ⟨p1, e1, g1⟩ := exC_ok fr t cs x l' h1
      exact ⟨p1, e1, by rw [Ty.cells]; exact g1⟩
    · cases h
  | .ptr t, cs, e, rest, h => by
    rw [exC] at h
    cases h
    all_goals simp
theorem exA_ok {fr : Bool} {t : Ty} {cs : List (SV D)} {e : E D t} (h : exA fr t cs = some e) : LesL (t.cells fr e.den) (SV.encL m H cs) := by
  unfold exA at h
  split at h
  · rename_i x h1
    injection h with h
    subst h
    obtain ⟨pre, e1, g⟩ := exC_ok (m := m) (H := H) fr t cs x [] h1
    rw [e1, List.append_nil]
    exact g
  · cases h
theorem exRows_ok {fr : Bool} {t : Ty} : ∀ {rows : List (List (SV D))} {xs : E D (.list t)}, exRows fr t rows = some xs → List.length xs.den = rows.length ∧ ∀ (i : Nat) (row : List (SV D)) (x : t.den), rows[i]? = some row → (xs.den : List t.den)[i]? = some x → LesL (t.cells fr x) (SV.encL m H row)
  | [], xs, h => by
    rw [exRows] at h
    injection h with h
    subst h
    exact ⟨rfl, fun i row x hr => by simp at hr⟩
  | r :: l, xs, h => by
    rw [exRows] at h
    split at h
    · rename_i x xs' h1 h2
      injection h with h
      subst h
      obtain ⟨g1, g2⟩ := exRows_ok h2
      refine ⟨by show List.length (x.den :: (xs'.den : List t.den)) = _; simp [g1], fun i row y hr hy => ?_⟩
      cases i with
      | zero =>
        simp only [List.getElem?_cons_zero, Option.some.injEq] at hr
        have hy : some x.den = some y := hy
        injection hy with hy
        subst hr; subst hy
        exact exA_ok h1
      | succ i => exact g2 i row y (by simpa using hr) hy
    · cases h
end
end Go.Proofs.Ytedjnjgnadbkaaa
/- Decompiling: the operations that make or write memory: what is computed is what they do. No program in sight. -/
namespace Go.Proofs.Ytedjnjgnadbkaaa
open Go Go.RowKit

structure LesRs (rows rows' : List (List AV)) : Prop where
  len : rows.length = rows'.length
  at' : ∀ (i : Nat) (row row' : List AV), rows[i]? = some row → rows'[i]? = some row' → LesL row row'
theorem LesRs.append {a b c d : List (List AV)} (h : LesRs a b) (k : LesRs c d) : LesRs (a ++ c) (b ++ d) := ⟨by simp [h.len, k.len], fun i x y hx hy => by
  by_cases hi : i < a.length
  · rw [List.getElem?_append_left hi] at hx
    rw [List.getElem?_append_left (by rw [← h.len]; exact hi)] at hy
    exact h.at' i x y hx hy
  · rw [List.getElem?_append_right (by omega)] at hx
    rw [List.getElem?_append_right (by rw [← h.len]; omega), ← h.len] at hy
    exact k.at' _ x y hx hy⟩
theorem set_les {l m : List AV} {a b : AV} (h : LesL l m) (k : Les a b) (i : Nat) : LesL (l.set i a) (m.set i b) := ⟨by simp [h.len], fun j x y hx hy => by
  rw [List.getElem?_set] at hx hy
  by_cases e : i = j
  · subst e
    rw [if_pos rfl] at hx hy
    split at hx
    · split at hy
      · injection hx with hx
        injection hy with hy
        subst hx; subst hy; exact k
      · cases hy
    · cases hx
  · rw [if_neg e] at hx hy
    exact h.at' j x y hx hy⟩
theorem setR_les : ∀ {l m c d : List AV}, LesL c d → LesL l m → ∀ (o : Nat), LesL (setR c o l) (setR d o m)
  | [], [], c, d, h, _, o => h
  | [], _ :: _, _, _, _, k, _ => by have := k.len; simp at this
  | _ :: _, [], _, _, _, k, _ => by have := k.len; simp at this
  | a :: l, b :: m, c, d, h, k, o => by
    rw [setR, setR]
    exact setR_les (set_les h (k.at' 0 a b rfl rfl) o) ⟨by have := k.len; simpa using this, fun i x y hx hy => k.at' (i + 1) x y (by simpa using hx) (by simpa using hy)⟩ (o + 1)
theorem LesB.rows {sz : Nat} {rows rows' : List (List AV)} {e : TypeId} (h : LesRs rows rows') : LesB (.row sz rows e) (.row sz rows' e) := .row sz e h.len h.at'
theorem cells_le {fr fr' : Bool} (h : (!fr' || fr) = true) (t : Ty) (x : t.den) : LesL (t.cells fr' x) (t.cells fr x) := by
  cases fr <;> cases fr' <;> first | exact .refl _ | (cases h; done) | exact t.cells_unfr x
theorem rows_le {fr fr' : Bool} (h : (!fr' || fr) = true) (t : Ty) (xs : List t.den) : LesRs (xs.map (t.cells fr')) (xs.map (t.cells fr)) := ⟨by simp, fun i row row' h1 h2 => by
  rw [List.getElem?_map] at h1 h2
  obtain ⟨x, hx, e⟩ := Option.map_eq_some_iff.1 h1
  rw [hx] at h2
  have h2 : t.cells fr x = row' := by injection h2
  subst e; subst h2
  exact cells_le h t x⟩
theorem rows_set {fr fr' : Bool} (h : (!fr' || fr) = true) {t : Ty} {xs : List t.den} {i : Nat} {x : t.den} {row : List AV} (hr : LesL (t.cells fr' x) row) : LesRs ((xs.set i x).map (t.cells fr')) ((xs.map (t.cells fr)).set i row) := ⟨by simp, fun j a b h1 h2 => by
  rw [List.map_set, List.getElem?_set] at h1
  rw [List.getElem?_set] at h2
  by_cases e : i = j
  · subst e
    rw [if_pos rfl] at h1 h2
    split at h1
    · rw [if_pos (by simp_all)] at h2
      injection h1 with h1
      injection h2 with h2
      subst h1; subst h2
      exact hr
    · cases h1
  · rw [if_neg e] at h1 h2
    exact (rows_le h t xs).at' j a b h1 h2⟩
theorem chunkS_enc {m : Nat → Nat} {H : Nat → SB D} (sz : Nat) : ∀ (k : Nat) (cs : List (SV D)), chunk sz k (SV.encL m H cs) = (chunkS sz k cs).map (SV.encL m H)
  | 0, _ => rfl
  | k + 1, cs => by
    rw [chunk, chunkS, List.map_cons, ← chunkS_enc sz k, encL_map, encL_map, encL_map, List.map_take, List.map_drop]
theorem zerosS_enc {m : Nat → Nat} {H : Nat → SB D} (zs : List (SV D)) : ∀ k, SV.encL m H (zerosS zs k) = zerosA (SV.encL m H zs) k
  | 0 => by rw [zerosS, zerosA, SV.encL]
  | k + 1 => by rw [zerosS, zerosA, ← zerosS_enc zs k, encL_map, encL_map, encL_map, List.map_append]
theorem sameOp_eq {x y : Operand} {k k' : IntKind} {st : SSt D} {L C : Int} {m : Nat → Nat} {nx : Nat} (h : sameOp x y = true) (hx : (st.enc m nx).ev x = .int k L) (hy : (st.enc m nx).ev y = .int k' C) : C = L := by
  unfold sameOp at h
  split at h
  · rename_i a b
    have := Nat.eq_of_beq_eq_true h
    subst this
    rw [hx] at hy; injection hy with _ h; exact h.symm
  · rename_i k1 a k2 b
    have := of_decide_eq_true h
    subst this
    have hx : AV.int k1 a = AV.int k L := hx
    have hy : AV.int k2 a = AV.int k' C := hy
    injection hx with _ h1
    injection hy with _ h2
    omega
  · cases h
theorem lit_den {k : IntKind} {a : E D (.int k)} {x : Int} (h : a.lit? = some x) : (a.den : Int) = x := by
  unfold E.lit? at h
  split at h
  · injection h
  · cases h
theorem leE_den {k k' : IntKind} {a : E D (.int k)} {b : E D (.int k')} (h : (leE a b).den = true) : (a.den : Int) ≤ (b.den : Int) := by
  unfold leE at h
  split at h
  · rename_i x y h1 h2
    rw [lit_den h1, lit_den h2]
    exact of_decide_eq_true h
  · exact of_decide_eq_true h
theorem mulL_den {k : IntKind} {b : Nat} {a : E D (.int k)} : ((mulL b a).den : Int) = b * (a.den : Int) := by
  unfold mulL
  split
  · rename_i x h
    rw [lit_den h]; rfl
  · rfl
section
variable {P : Program} {n : Nat} {T : Tab} {F : List (Nat → AV)} {st st' : SSt D} {s : ASt} {m : Nat → Nat} {nx : Nat} {r : MR D} {gd : E D .bool} {d : Option Nat} {ty : TypeId} {ps : String} {af : Array Edge} {g : Option (Nat × Bool)} {t t' : TypeId} {y z : Operand}
/-- an operation and the states ahead of it and behind it -/
structure MemOk (P : Program) (n : Nat) (F : List (Nat → AV)) (o : Oper) (st st' : SSt D) (m : Nat → Nat) (nx : Nat) : Prop where
  ex : ∃ s', OpV P n o (st.enc m nx) s' ∧ StL F st' s'
abbrev nB (st : SSt D) (id : Nat) : Bool := !Nat.beq id st.nx
abbrev nR (st : SSt D) (id _ver : Nat) : Bool := !Nat.beq id st.nx
theorem StL.of3 {s : ASt} (h : MOk m nx st ∧ LeS (st.enc m nx) s ∧ FrOk m st.blk st.fr F) : StL F st s := ⟨m, nx, h.1, h.2.1.rle, h.2.2⟩
theorem newBox_ok (hm : MOk m nx st) (hf : FrOk m st.blk st.fr F) {cs : List (SV D)} {e : TypeId} {cs' : List AV} (hr : st.refs (nB st) (nR st) = true) (hb : ∀ m' H', MemLe m st.blk m' H' (nB st) (nR st) → LesL (SV.encL m' H' cs) cs') (d : Option Nat) :
    StL F (MR.app st d (.new (.box cs e) false)) (((st.enc m nx).hnew (.box cs' e)).put d (.box (st.enc m nx).nx 0)) := by
  obtain ⟨m', nx', h1, h2, h3, h4⟩ := hnew_les (b := .box cs e) (b' := .box cs' e) hm (.refl _) hf (by simp) hr (fun m' hc => .box e (hb m' _ hc))
  refine ⟨m', nx', put_mok h1 d _, LeS.rle ?_, ?_⟩
  · rw [MR.app, put_enc]
    refine h2.put ?_
    have hi : isBox (st.hnew (.box cs e)).blk st.nx = true := by unfold isBox; rw [hnew_blk, if_pos rfl]
    show Les (SV.enc m' _ (.box st.nx 0)) _
    rw [SV.enc, hi, h4]
    exact .refl _
  · rw [MR.app, put_blk]
    cases d <;> exact h3
theorem newRow_ok (hm : MOk m nx st) (hf : FrOk m st.blk st.fr F) {fr : Bool} {rt : Ty} {xs : E D (.list rt)} {e : TypeId} {rows : List (List AV)} {sz : Nat} (hsz : rt.size = sz) (hr : st.refs (nB st) (nR st) = true) (hb : LesRs ((xs.den : List rt.den).map (rt.cells fr)) rows) (d : Option Nat) {L : Nat} (hL : rows.length = L) :
    StL F (MR.app st d (.new (.row fr rt xs e 0) true)) (((st.enc m nx).hnew (.row sz rows e)).put d (.osl (st.enc m nx).nx L)) := by
  subst hsz
  obtain ⟨m', nx', h1, h2, h3, h4⟩ := hnew_les (b := .row fr rt xs e 0) (b' := .row rt.size rows e) hm (.refl _) hf (by simp) hr (fun m' hc => .rows hb)
  refine ⟨m', nx', put_mok h1 d _, LeS.rle ?_, ?_⟩
  · rw [MR.app, put_enc]
    refine h2.put ?_
    have hi : rowLen (st.hnew (.row fr rt xs e 0)).blk st.nx 0 = some (List.length xs.den) := by unfold rowLen; rw [hnew_blk, if_pos rfl]; rfl
    show Les (SV.enc m' _ (.osl st.nx 0)) _
    rw [SV.enc, hi, h4, ← hL, ← hb.len, rows_len]
    exact .refl _
  · rw [MR.app, put_blk]
    cases d <;> exact h3
theorem allocS_ok {e : TypeId} (hT : T.ok P) (hm : MOk m nx st) (hf : FrOk m st.blk st.fr F) (h : allocS T e = some (r, gd)) (hs : memSt st d r = some st') (hd : dok d n = true) : MemOk P n F ⟨d, .alloc e, ty, ps, af, g⟩ st st' m nx := by
  unfold allocS at h
  split at h
  · rename_i Z s b h1
    cases hc : allOne (Z.cells.toList.map avOf) with
    | false => rw [hc] at h; cases h
    | true =>
      rw [hc] at h
      simp only [cond_true, Option.some.injEq, Prod.mk.injEq] at h
      obtain ⟨rfl, rfl⟩ := h
      rw [memSt] at hs
      cases hr : st.refs (nB st) (nR st) with
      | false => rw [hr] at hs; cases hs
      | true =>
        rw [hr] at hs
        injection hs with hs
        subst hs
        exact ⟨_, op_alloc (allP_at hT.inf h1) rfl hc hd, newBox_ok hm hf hr (fun m' H' _ => by rw [zeroS_enc]; exact .refl _) d⟩
  · cases h
theorem boxS_ok {e : TypeId} (hm : MOk m nx st) (hf : FrOk m st.blk st.fr F) (h : boxS st e (st.ev y) = some (r, gd)) (hs : memSt st d r = some st') (hd : dok d n = true) : MemOk P n F ⟨d, .box e y, ty, ps, af, g⟩ st st' m nx := by
  unfold boxS at h
  cases hc : allOneS st (st.ev y).cells with
  | false => rw [hc] at h; cases h
  | true =>
    rw [hc] at h
    simp only [cond_true, Option.some.injEq, Prod.mk.injEq] at h
    obtain ⟨rfl, rfl⟩ := h
    rw [memSt] at hs
    cases hr : st.refs (nB st) (nR st) with
    | false => rw [hr] at hs; cases hs
    | true =>
      rw [hr] at hs
      injection hs with hs
      subst hs
      refine ⟨_, op_box (c := SV.encL m st.blk (st.ev y).cells) (by rw [enc_ev, enc_cells]) (allOneS_enc hc) hd, newBox_ok hm hf hr (fun m' H' hc' => encL_les hc' _ (cells_refs (ev_refs hr y))) d⟩
theorem le_of_mul {b : Nat} {q : Int} (hb : 0 < b) (h0 : 0 ≤ q) (h : (b : Int) * q ≤ 281474976710656) : q ≤ 9223372036854775807 := by
  have h1 : q * 1 ≤ q * (b : Int) := Int.mul_le_mul_of_nonneg_left (by omega) h0
  rw [Int.mul_comm q (b : Int)] at h1
  omega
theorem makeS_ok (hT : T.ok P) (hm : MOk m nx st) (hf : FrOk m st.blk st.fr F) (h : makeS T t y z (st.ev y) (st.ev z) = some (r, gd)) (hg : gd.den = true) (hs : memSt st d r = some st') (hd : dok d n = true) : MemOk P n F ⟨d, .makeSlice t y z, ty, ps, af, g⟩ st st' m nx := by
  have ey := enc_ev st m nx y
  have ez := enc_ev st m nx z
  generalize st.ev y = v at h ey
  generalize st.ev z = u at h ez
  unfold makeS at h
  split at h
  · rename_i e k L k' C hu
    rw [SV.enc] at ey
    rw [SV.enc] at ez
    split at h
    · rename_i Z sz b rt hI hty
      cases hc : (allOne (Z.cells.toList.map avOf) && Nat.beq (Z.cells.toList.map avOf).length sz && Nat.blt 0 sz && Nat.blt 0 b) with
      | false => rw [hc] at h; cases h
      | true =>
        rw [hc] at h
        simp only [cond_true] at h
        simp only [Bool.and_eq_true] at hc
        obtain ⟨⟨⟨c1, c2⟩, c3⟩, c4⟩ := hc
        split at h
        · rename_i x0 hx0
          simp only [Option.some.injEq, Prod.mk.injEq] at h
          obtain ⟨rfl, rfl⟩ := h
          rw [andE_den, andE_den] at hg
          obtain ⟨g1, g2⟩ := andB hg
          obtain ⟨g2, g3⟩ := andB g2
          have g2 := leE_den g2
          have hb0 : 0 < b := by simpa using c4
          have g2 : (0 : Int) ≤ (L.den : Int) := g2
          obtain ⟨hLC, g3⟩ : (L.den : Int) ≤ (C.den : Int) ∧ (b : Int) * (C.den : Int) ≤ 281474976710656 := by
            cases hso : sameOp y z with
            | true =>
              have hCL : (C.den : Int) = (L.den : Int) := sameOp_eq hso ey ez
              rw [hso] at g3
              have g3 := leE_den g3
              rw [mulL_den] at g3
              rw [hCL]
              exact ⟨Int.le_refl _, g3⟩
            | false =>
              rw [hso] at g1 g3
              have g3 := leE_den g3
              rw [mulL_den] at g3
              exact ⟨leE_den g1, g3⟩
          have g4 : (C.den : Int) ≤ 9223372036854775807 := le_of_mul hb0 (Int.le_trans g2 hLC) g3
          rw [memSt] at hs
          cases hr : st.refs (nB st) (nR st) with
          | false => rw [hr] at hs; cases hs
          | true =>
            rw [hr] at hs
            injection hs with hs
            subst hs
            have hz : (Z.cells.toList.map avOf).length = sz := Nat.eq_of_beq_eq_true c2
            have hcell := exA_ok (m := m) (H := st.blk) hx0
            rw [zeroS_enc] at hcell
            refine ⟨_, op_makeC (L := (L.den : Int)) (C := (C.den : Int)) (allP_at hT.und hu) (allP_at hT.inf hI) rfl hz (by simpa using c3) c1 ey ez g2 hLC g3 g4 hd, ?_⟩
            refine newRow_ok hm hf (by rw [← rt.cells_length true x0.den, hcell.len, hz]) hr ⟨?_, fun i row row' h1 h2 => ?_⟩ d (by rw [List.length_replicate])
            · show (List.map _ (List.replicate _ _)).length = _
              rw [List.length_map, List.length_replicate, List.length_replicate]
            · have h1 : ((List.replicate (Int.toNat L.den) (x0.den : rt.den)).map (rt.cells true))[i]? = some row := h1
              rw [List.map_replicate, List.getElem?_replicate] at h1
              rw [List.getElem?_replicate] at h2
              split at h1
              · rename_i hi
                rw [if_pos hi] at h2
                injection h1 with h1
                injection h2 with h2
                subst h1; subst h2
                exact hcell
              · cases h1
        · cases h
    · cases h
  · cases h
theorem chunkS_at {m : Nat → Nat} {H : Nat → SB D} {sz L : Nat} {cs : List (SV D)} {fr : Bool} {rt : Ty} {xs : E D (.list rt)} (h : exRows fr rt (chunkS sz L cs) = some xs) : LesRs ((xs.den : List rt.den).map (rt.cells fr)) (chunk sz L (SV.encL m H cs)) := by
  obtain ⟨h1, h2⟩ := exRows_ok (m := m) (H := H) h
  rw [chunkS_enc]
  refine ⟨by rw [List.length_map, List.length_map]; exact h1, fun i row row' g1 g2 => ?_⟩
  rw [List.getElem?_map] at g1 g2
  obtain ⟨x, hx, e1⟩ := Option.map_eq_some_iff.1 g1
  obtain ⟨y, hy, e2⟩ := Option.map_eq_some_iff.1 g2
  subst e1; subst e2
  exact h2 i y x hy hx
theorem litS_ok {L : Nat} {parts : Array (Nat × Operand)} (hT : T.ok P) (hm : MOk m nx st) (hf : FrOk m st.blk st.fr F) (h : litS T st t L parts = some (r, gd)) (hs : memSt st d r = some st') (hd : dok d n = true) : MemOk P n F ⟨d, .buildSlice t L parts, ty, ps, af, g⟩ st st' m nx := by
  unfold litS at h
  split at h
  · rename_i e hu
    split at h
    · rename_i Z sz b rt hI hty
      cases hc : (allOne (Z.cells.toList.map avOf) && Nat.beq (Z.cells.toList.map avOf).length sz && Nat.blt 0 sz && Nat.ble (L * sz) 16777216 && Nat.beq rt.size sz) with
      | false => rw [hc] at h; cases h
      | true =>
        rw [hc] at h
        simp only [cond_true] at h
        simp only [Bool.and_eq_true] at hc
        obtain ⟨⟨⟨⟨c1, c2⟩, c3⟩, c4⟩, c5⟩ := hc
        split at h
        · rename_i out hf'
          cases ho : Nat.beq out.length (L * sz) with
          | false => rw [ho] at h; cases h
          | true =>
            rw [ho] at h
            simp only [cond_true] at h
            have hf' := fillS_enc (m := m) hf'
            rw [zerosS_enc, zeroS_enc, ← evPartsS_enc (nx := nx)] at hf'
            have hsz := Nat.eq_of_beq_eq_true c5
            have key := op_buildSlice (st := st.enc m nx) (d := d) (ty := ty) (ps := ps) (af := af) (g := g) (allP_at hT.und hu) (allP_at hT.inf hI) rfl c1 (Nat.eq_of_beq_eq_true c2) (by simpa using c3) c4 hf' (by rw [encL_length]; exact Nat.eq_of_beq_eq_true ho) rfl hd
            have fin : ∀ fr xs, exRows fr rt (chunkS sz L out) = some xs → r = .new (.row fr rt xs e 0) true → MemOk P n F ⟨d, .buildSlice t L parts, ty, ps, af, g⟩ st st' m nx := by
              intro fr xs hx er
              subst er
              rw [memSt] at hs
              cases hr : st.refs (nB st) (nR st) with
              | false => rw [hr] at hs; cases hs
              | true =>
                rw [hr] at hs
                injection hs with hs
                subst hs
                exact ⟨_, key, newRow_ok hm hf hsz hr (chunkS_at hx) d (chunk_length _ _ _)⟩
            unfold litRow at h
            split at h
            · rename_i xs hx
              simp only [Option.some.injEq, Prod.mk.injEq] at h
              exact fin _ _ hx h.1.symm
            · split at h
              · rename_i xs hx
                simp only [Option.some.injEq, Prod.mk.injEq] at h
                exact fin _ _ hx h.1.symm
              · cases h
        · cases h
    · cases h
  · cases h
theorem op_store_elt' {s : ASt} {Z : Option Value} {sl b : Nat} {id q i o sz : Nat} {rows : List (List AV)} {e : TypeId} {row vs : List AV} (hx : s.ev y = .elt id q i o) (hb : look .dead s.heap id = .row sz rows e) (hm : q = rows.length) (hr : ∀ row', rows[i]? = some row' → row' = row) (hy : (s.ev z).cells = vs) (h1 : allOne vs = true) (hI : tyI P t = some (Z, sl, b)) (hs : vs.length = sl) (hle : o + sl ≤ sz) :
    OpV P n ⟨none, .store t y z, ty, ps, af, g⟩ s (s.hset id (.row sz (rows.set i (setR row o vs)) e)) := .mk fun K A w ⟨G, rr⟩ => by
  have e1 := rr.ev y
  rw [hx] at e1
  have hi : i < rows.length := by
    cases e1 with
    | dat h => cases h
    | elt _ _ _ _ _ _ hin => omega
  have hrow : rows[i]? = some row := by
    rw [List.getElem?_eq_getElem hi, hr _ (List.getElem?_eq_getElem hi)]
  exact (op_store_elt hx hb hm hrow hy h1 hI hs hle).out K A w ⟨G, rr⟩
theorem memLe_box {id : Nat} {cs cs' : List (SV D)} {e : TypeId} {pB : Nat → Bool} {pR : Nat → Nat → Bool} (h : st.blk id = .box cs e) : MemLe m st.blk m (st.hset id (.box cs' e)).blk pB pR := by
  refine ⟨fun k _ => .inr ⟨?_, rfl⟩, fun k v _ => .inr ⟨?_, rfl⟩⟩
  · unfold isBox
    rw [hset_blk]
    by_cases e' : id = k
    · subst e'; rw [if_pos rfl, h]
    · rw [if_neg e']
  · unfold rowLen
    rw [hset_blk]
    by_cases e' : id = k
    · subst e'; rw [if_pos rfl, h]
    · rw [if_neg e']
theorem memLe_set {id : Nat} {fr fr' : Bool} {rt : Ty} {xs xs' : E D (.list rt)} {e ver : Nat} {pB : Nat → Bool} {pR : Nat → Nat → Bool} (h : st.blk id = .row fr rt xs e ver) (hl : List.length xs'.den = List.length xs.den) : MemLe m st.blk m (st.hset id (.row fr' rt xs' e ver)).blk pB pR := by
  refine ⟨fun k _ => .inr ⟨?_, rfl⟩, fun k v _ => .inr ⟨?_, rfl⟩⟩
  · unfold isBox
    rw [hset_blk]
    by_cases e' : id = k
    · subst e'; rw [if_pos rfl, h]
    · rw [if_neg e']
  · unfold rowLen
    rw [hset_blk]
    by_cases e' : id = k
    · subst e'; rw [if_pos rfl, h]; simp only [hl]
    · rw [if_neg e']
theorem refs_all (st : SSt D) : st.refs (fun _ => true) (fun _ _ => true) = true := by
  have key : ∀ x : SV D, x.refs (fun _ => true) (fun _ _ => true) = true := by
    intro x
    exact SV.rec (motive_1 := fun x => x.refs (fun _ => true) (fun _ _ => true) = true) (motive_2 := fun l => SV.refsL (fun _ => true) (fun _ _ => true) l = true)
      (by rw [SV.refs] <;> simp) (by rw [SV.refs] <;> simp) (fun _ _ => by rw [SV.refs] <;> simp) (fun _ => by rw [SV.refs] <;> simp) (fun _ => by rw [SV.refs] <;> simp) (by rw [SV.refs] <;> simp) (by rw [SV.refs] <;> simp) (by rw [SV.refs] <;> simp)
      (fun _ _ => by rw [SV.refs]) (fun _ _ _ _ _ => by rw [SV.refs]) (fun _ _ _ _ => by rw [SV.refs] <;> simp) (fun _ _ => by rw [SV.refs]) (fun _ _ _ _ => by rw [SV.refs]) (fun _ _ _ => by rw [SV.refs] <;> simp)
      (fun _ h => by rw [SV.refs]; exact h) (fun _ h => by rw [SV.refs]; exact h) (fun _ _ h => by rw [SV.refs]; exact h) (by rw [SV.refsL]) (fun _ _ h1 h2 => by rw [SV.refsL, h1, h2]; rfl) x
  have kL : ∀ l : List (SV D), SV.refsL (fun _ => true) (fun _ _ => true) l = true := by
    intro l
    induction l with
    | nil => rw [SV.refsL]
    | cons c l ih => rw [SV.refsL, key, ih]; rfl
  have kH : ∀ l : List (Nat × SB D), refsH (fun _ => true) (fun _ _ => true) l = true := by
    intro l
    induction l with
    | nil => rfl
    | cons p l ih =>
      rw [refsH, ih, Bool.and_true]
      obtain ⟨j, b⟩ := p
      cases b with
      | box cs e => exact kL cs
      | _ => rfl
  have kF : ∀ l : List (List (Nat × SV D)), refsF (fun _ => true) (fun _ _ => true) l = true := by
    intro l
    induction l with
    | nil => rfl
    | cons p l ih => rw [refsF, ih, refsR_all _ key]; rfl
  unfold SSt.refs
  rw [refsR_all _ key, refsR_all _ key, kH, kH, kF]; rfl
theorem storeS_ok (hT : T.ok P) (hm : MOk m nx st) (hf : FrOk m st.blk st.fr F) (h : storeS T st t (st.ev y) (st.ev z) = some (r, gd)) (hs : memSt st none r = some st') : MemOk P n F ⟨none, .store t y z, ty, ps, af, g⟩ st st' m nx := by
  have ey := enc_ev st m nx y
  have ez := enc_ev st m nx z
  have hzc := enc_cells (m := m) (H := st.blk) (st.ev z)
  rw [← ez] at hzc
  have hone : allOneS st (st.ev z).cells = true → allOne ((st.enc m nx).ev z).cells = true := fun h => by rw [hzc]; exact allOneS_enc h
  generalize st.ev y = v at h ey
  unfold storeS at h
  generalize (st.ev z).cells = vs at h hzc hone
  split at h
  · rename_i Z s b hI
    cases hc : (allOneS st vs && Nat.beq vs.length s) with
    | false => rw [hc] at h; cases h
    | true =>
      rw [hc] at h
      simp only [cond_true] at h
      rw [Bool.and_eq_true] at hc
      have hls := Nat.eq_of_beq_eq_true hc.2
      have h1 := hone hc.1
      rw [hzc] at h1
      split at h
      · rename_i id o
        split at h
        · rename_i cs e hb
          cases hl : Nat.ble (o + s) cs.length with
          | false => rw [hl] at h; cases h
          | true =>
            rw [hl] at h
            simp only [cond_true, Option.some.injEq, Prod.mk.injEq] at h
            obtain ⟨rfl, rfl⟩ := h
            simp only [memSt, Option.some.injEq] at hs
            subst hs
            have hi : isBox st.blk id = true := by unfold isBox; rw [hb]
            rw [SV.enc, hi] at ey
            have hlive : st.blk id ≠ .dead := by rw [hb]; simp
            have hbb := enc_blk hm hlive
            rw [hb, SB.enc] at hbb
            refine ⟨_, op_store_box ey hbb hzc h1 (allP_at hT.inf hI) (by rw [encL_length]; exact hls) (by rw [encL_length]; exact Nat.le_of_ble_eq_true hl), ?_⟩
            refine StL.of3 (hset_les hm (.refl _) hlive (by simp) (memLe_box hb) (refs_all st) ?_ hf)
            rw [SB.enc, setRS_enc]
            have hH : ∀ l : List (SV D), LesL (SV.encL m (st.hset id (.box (setRS cs o vs) e)).blk l) (SV.encL m st.blk l) := fun l => encL_les (memLe_box (pB := fun _ => true) (pR := fun _ _ => true) hb) l (by
              induction l with
              | nil => rw [SV.refsL]
              | cons c l ih =>
                have := refs_all (⟨[(0, c)], [], [], [], [], 0⟩ : SSt D)
                unfold SSt.refs at this
                simp only [refsR, Bool.and_eq_true] at this
                rw [SV.refsL, this.1.1, ih]; rfl)
            exact .box e (setR_les (hH cs) (hH vs) o)
        · cases h
      · rename_i id ver k i o
        split at h
        · rename_i fr rt xs e ver' hb
          cases hl : (Nat.beq ver ver' && Nat.ble (o + s) rt.size) with
          | false => rw [hl] at h; cases h
          | true =>
            rw [hl] at h
            simp only [cond_true] at h
            rw [Bool.and_eq_true] at hl
            have hlive : st.blk id ≠ .dead := by rw [hb]; simp
            have hbb := enc_blk hm hlive
            rw [hb, SB.enc] at hbb
            rw [SV.enc, rowLen_eq hb hl.1] at ey
            have key : ∀ (fr' : Bool) (x : E D rt), (!fr' || fr) = true → exA fr' rt (setRS (cellsE fr rt (.at xs i)) o vs) = some x → st' = st.hset id (.row fr' rt (.set xs i x) e ver') → MemOk P n F ⟨none, .store t y z, ty, ps, af, g⟩ st st' m nx := by
              intro fr' x hfr hx e'
              subst e'
              have hcell := exA_ok (m := m) (H := st.blk) hx
              rw [setRS_enc, cellsE_enc] at hcell
              refine ⟨_, op_store_elt' ey hbb (rows_len _).symm (fun row' hr => at_row hr) hzc h1 (allP_at hT.inf hI) (by rw [encL_length]; exact hls) (Nat.le_of_ble_eq_true hl.2), ?_⟩
              refine StL.of3 (hset_les hm (.refl _) hlive (by simp) (memLe_set hb ?_) (refs_all st) ?_ hf)
              · show List.length (List.set _ _ _) = _
                rw [List.length_set]
              · exact .rows (rows_set hfr hcell)
            split at h
            · rename_i x hx
              simp only [Option.some.injEq, Prod.mk.injEq] at h
              obtain ⟨rfl, rfl⟩ := h
              simp only [memSt, Option.some.injEq] at hs
              exact key fr x (by cases fr <;> rfl) hx hs.symm
            · split at h
              · rename_i x hx
                simp only [Option.some.injEq, Prod.mk.injEq] at h
                obtain ⟨rfl, rfl⟩ := h
                simp only [memSt, Option.some.injEq] at hs
                exact key false x rfl hx hs.symm
              · cases h
        · cases h
      · cases h
  · cases h
theorem nat_of1 {a c : Nat} (h : (a : Int) * ((c : Nat) : Int) ≤ 140737488355328) : a * c ≤ 140737488355328 := by
  rw [← Int.natCast_mul] at h; omega
theorem nat_of2 {a b c : Nat} (h : ((a : Int) + (b : Int)) * ((c : Nat) : Int) ≤ 140737488355328) : (a + b) * c ≤ 140737488355328 := by
  rw [← Int.natCast_add, ← Int.natCast_mul] at h; omega
theorem srcS_ok {rt : Ty} {fr : Bool} {ys : E D (.list rt)} (hfl : rt.flat = true) (hm : MOk m nx st) (h : srcS st rt (st.ev y) = some (fr, ys)) : SrcA (st.enc m nx).heap rt.size ((st.enc m nx).ev y) ((ys.den : List rt.den).map (rt.cells fr)) := by
  have ey := enc_ev st m nx y
  generalize st.ev y = v at h ey
  rw [ey]
  unfold srcS at h
  split at h
  · rename_i fr' t' xs
    split at h
    · rename_i ht _
      subst ht
      simp only [Option.some.injEq, Prod.mk.injEq] at h
      obtain ⟨rfl, rfl⟩ := h
      rw [SV.enc]
      refine .ro _ _ fun row hr => ?_
      obtain ⟨x, _, rfl⟩ := List.mem_map.1 hr
      exact ⟨t'.cells_length _ x, t'.cells_one _ x hfl⟩
    · cases h
  · rename_i id ver
    split at h
    · rename_i fr' t' xs e v hb
      cases hv : Nat.beq ver v with
      | false => rw [hv] at h; cases h
      | true =>
        rw [hv] at h
        simp only [cond_true] at h
        split at h
        · rename_i ht _
          subst ht
          simp only [Option.some.injEq, Prod.mk.injEq] at h
          obtain ⟨rfl, rfl⟩ := h
          rw [SV.enc, rowLen_eq hb hv]
          have hbb := enc_blk hm (k := id) (by rw [hb]; simp)
          rw [hb, SB.enc] at hbb
          exact .osl _ _ _ _ hbb (rows_len _).symm
        · cases h
    · cases h
  · simp only [Option.some.injEq, Prod.mk.injEq] at h
    obtain ⟨rfl, rfl⟩ := h
    rw [SV.enc]
    exact .nils
  · cases h
theorem srcC_ok {rt : Ty} {fr : Bool} {ys : E D (.list rt)} (hfl : rt.flat = true) (hm : MOk m nx st) (h : srcC st rt (st.ev y) = some (fr, ys)) : SrcA (st.enc m nx).heap rt.size ((st.enc m nx).ev y) ((ys.den : List rt.den).map (rt.cells fr)) := by
  unfold srcC at h
  split at h
  · rename_i id ver lo hi hev
    split at h
    · rename_i fr' t' xs e v hb
      cases hv : Nat.beq ver v with
      | false => rw [hv] at h; cases h
      | true =>
        rw [hv] at h
        simp only [cond_true] at h
        split at h
        · rename_i ht _
          subst ht
          simp only [Option.some.injEq, Prod.mk.injEq] at h
          obtain ⟨rfl, rfl⟩ := h
          rw [enc_ev, hev, SV.enc, rowLen_eq hb hv]
          have hbb := enc_blk hm (k := id) (by rw [hb]; simp)
          rw [hb, SB.enc] at hbb
          refine .vsl _ _ _ _ _ _ _ hbb (rows_len _).symm ?_
          rw [← List.map_drop, ← List.map_take]
          show _ = ((((xs.den : List t'.den).take (hi.den : Int).toNat).drop (lo.den : Int).toNat)).map (t'.cells fr')
          rw [List.drop_take]
        · cases h
    · cases h
  · exact srcS_ok hfl hm h
theorem appS_ok (hT : T.ok P) (hm : MOk m nx st) (hf : FrOk m st.blk st.fr F) (h : appS T st t (st.ev y) (st.ev z) = some (r, gd)) (hg : gd.den = true) (hs : memSt st d r = some st') (hd : dok d n = true) : MemOk P n F ⟨d, .call ⟨.builtin .append, ⟨[y, z]⟩, ⟨[t, t]⟩⟩, ty, ps, af, g⟩ st st' m nx := by
  have ey := enc_ev st m nx y
  generalize st.ev y = v at h ey
  unfold appS at h
  split at h
  · rename_i e hu
    split at h
    · rename_i Z sz b hI
      cases hc : (Nat.beq Z.cells.size sz && Nat.blt 0 sz) with
      | false => rw [hc] at h; cases h
      | true =>
        rw [hc] at h
        simp only [cond_true] at h
        rw [Bool.and_eq_true] at hc
        have hz := Nat.eq_of_beq_eq_true hc.1
        have h0 : 0 < sz := Nat.le_of_ble_eq_true hc.2
        split at h
        · rename_i id ver
          split at h
          · rename_i fr rt xs e' v hb
            cases hc2 : (Nat.beq ver v && (Nat.beq e' e && (Nat.beq sz rt.size && rt.flat))) with
            | false => rw [hc2] at h; cases h
            | true =>
              rw [hc2] at h
              simp only [cond_true] at h
              simp only [Bool.and_eq_true] at hc2
              obtain ⟨hv, he, hsz, hfl⟩ := hc2
              have he := Nat.eq_of_beq_eq_true he
              have hsz := Nat.eq_of_beq_eq_true hsz
              subst he
              subst hsz
              split at h
              · rename_i fr' ys hy
                cases hr : st.refs (fun _ => true) (fun i w => !(Nat.beq i id && Nat.beq w (v + 1))) with
                | false => rw [hr] at h; cases h
                | true =>
                  rw [hr] at h
                  simp only [cond_true, Option.some.injEq, Prod.mk.injEq] at h
                  obtain ⟨rfl, rfl⟩ := h
                  simp only [memSt, Option.some.injEq] at hs
                  subst hs
                  have hlive : st.blk id ≠ .dead := by rw [hb]; simp
                  have hbb := enc_blk hm hlive
                  rw [hb, SB.enc] at hbb
                  rw [SV.enc, rowLen_eq hb hv] at ey
                  have hsrc := srcC_ok (nx := nx) hfl hm hy
                  have hg := leE_den hg
                  have hg : ((List.length xs.den : Int) + (List.length ys.den : Int)) * ((bmul b : Nat) : Int) ≤ 140737488355328 := hg
                  have h63 : (List.length xs.den + List.length ys.den) * bmul b ≤ 140737488355328 := nat_of2 hg
                  refine ⟨_, op_append ey hbb rfl (rows_len _).symm rfl hsrc (allP_at hT.und hu) (allP_at hT.inf hI) hz (by rw [rows_len, rows_len]; exact h63) hd, ?_⟩
                  have hnew : rowLen (st.hset id (.row (fr && fr') rt (.app xs ys) e' (v + 1))).blk id (v + 1) = some (List.length xs.den + List.length ys.den) := by
                    unfold rowLen
                    rw [hset_blk, if_pos rfl]
                    simp only [Nat.beq_refl, cond_true]
                    show some (List.length (List.append _ _)) = _
                    rw [List.append_eq, List.length_append]
                  have hle : MemLe m st.blk m (st.hset id (.row (fr && fr') rt (.app xs ys) e' (v + 1))).blk (fun _ => true) (fun i w => !(Nat.beq i id && Nat.beq w (v + 1))) := by
                    refine ⟨fun k _ => .inr ⟨?_, rfl⟩, fun k w hw => ?_⟩
                    · unfold isBox
                      rw [hset_blk]
                      by_cases e1 : id = k
                      · subst e1; rw [if_pos rfl, hb]
                      · rw [if_neg e1]
                    · by_cases e1 : id = k
                      · subst e1
                        have hw : (!(Nat.beq id id && Nat.beq w (v + 1))) = true := hw
                        rw [Nat.beq_refl, Bool.true_and] at hw
                        refine .inl ?_
                        unfold rowLen
                        rw [hset_blk, if_pos rfl]
                        cases hq : Nat.beq w (v + 1) with
                        | true => rw [hq] at hw; cases hw
                        | false => simp only [hq]; rfl
                      · refine .inr ⟨?_, rfl⟩
                        unfold rowLen
                        rw [hset_blk, if_neg e1]
                  have hst := hset_les (b := .row (fr && fr') rt (.app xs ys) e' (v + 1)) (b' := .row rt.size ((xs.den : List rt.den).map (rt.cells fr) ++ (ys.den : List rt.den).map (rt.cells fr')) e') hm (.refl _) hlive (by simp) hle hr (by
                    rw [SB.enc]
                    refine .rows ?_
                    show LesRs (((xs.den : List rt.den) ++ (ys.den : List rt.den)).map (rt.cells (fr && fr'))) _
                    rw [List.map_append]
                    exact (rows_le (by cases fr <;> cases fr' <;> rfl) rt _).append (rows_le (by cases fr <;> cases fr' <;> rfl) rt _)) hf
                  refine ⟨m, nx, put_mok hst.1 d _, LeS.rle ?_, ?_⟩
                  · show LeS (((st.hset id _).put d (.osl id (v + 1))).enc m nx) _
                    rw [put_enc]
                    refine hst.2.1.put ?_
                    rw [SV.enc, hnew, rows_len, rows_len]
                    exact .refl _
                  · show FrOk m ((st.hset id _).put d (.osl id (v + 1))).blk _ _
                    rw [put_blk]
                    have := hst.2.2
                    cases d <;> exact this
              · cases h
          · cases h
        · split at h
          · rename_i rt hty
            cases hc2 : (Nat.beq sz rt.size && rt.flat) with
            | false => rw [hc2] at h; cases h
            | true =>
              rw [hc2] at h
              simp only [cond_true] at h
              rw [Bool.and_eq_true] at hc2
              have hsz := Nat.eq_of_beq_eq_true hc2.1
              subst hsz
              split at h
              · rename_i fr' ys hy
                simp only [Option.some.injEq, Prod.mk.injEq] at h
                obtain ⟨rfl, rfl⟩ := h
                rw [memSt] at hs
                cases hr : st.refs (nB st) (nR st) with
                | false => rw [hr] at hs; cases hs
                | true =>
                  rw [hr] at hs
                  injection hs with hs
                  subst hs
                  rw [SV.enc] at ey
                  have hsrc := srcC_ok (nx := nx) hc2.2 hm hy
                  have hg := leE_den hg
                  have hg : (List.length ys.den : Int) * ((bmul b : Nat) : Int) ≤ 140737488355328 := hg
                  have h63 : List.length ys.den * bmul b ≤ 140737488355328 := nat_of1 hg
                  exact ⟨_, op_append_nil ey rfl hsrc (allP_at hT.und hu) (allP_at hT.inf hI) h0 hz (by rw [rows_len]; exact h63) hd, newRow_ok hm hf rfl hr ⟨rfl, fun i a b h1 h2 => by rw [h1] at h2; injection h2 with h2; subst h2; exact .refl _⟩ d rfl⟩
              · cases h
          · cases h
        · cases h
    · cases h
  · cases h
theorem mem0_ok {o : Oper} (hT : T.ok P) (hm : MOk m nx st) (hf : FrOk m st.blk st.fr F) (h : mem0 T st o.dst o.op = some (r, gd)) (hg : gd.den = true) (hs : memSt st o.dst r = some st') (hd : dok o.dst n = true) : MemOk P n F o st st' m nx := by
  obtain ⟨d, op, ty, ps, af, g⟩ := o
  simp only at h hs
  have hd : dok d n = true := hd
  unfold mem0 at h
  split at h
  · exact allocS_ok hT hm hf h hs hd
  · exact boxS_ok hm hf h hs hd
  · split at h
    · exact storeS_ok hT hm hf h hs
    · cases h
  · exact makeS_ok hT hm hf h hg hs hd
  · exact litS_ok hT hm hf h hs hd
  · rename_i x y t t'
    cases ht : Nat.beq t' t with
    | false => rw [ht] at h; cases h
    | true =>
      rw [ht] at h
      have := Nat.eq_of_beq_eq_true ht
      subst this
      exact appS_ok hT hm hf h hg hs hd
  · cases h
/-! a row cut short -/
theorem encH_tr {m m' : Nat → Nat} {H H' : Nat → SB D} {pB : Nat → Bool} {pR : Nat → Nat → Bool} (h : MemLe m H m' H' pB pR) {id k nx : Nat} (hid : m' id = nx) (hk : k ≠ nx) (hm' : ∀ j, j ≠ id → m' j = m j) :
    ∀ (l : List (Nat × SB D)), refsH pB pR l = true → (∀ p ∈ l, m p.1 = m id → p.1 = id) → (k = m id → look .dead (encH m' H' l) k = .dead) ∧ (k ≠ m id → LesB (look .dead (encH m' H' l) k) (look .dead (encH m H l) k))
  | [], _, _ => ⟨fun _ => rfl, fun _ => .refl _⟩
  | (j, b) :: l, hr, hinj => by
    rw [refsH, Bool.and_eq_true] at hr
    obtain ⟨i1, i2⟩ := encH_tr h hid hk hm' l hr.2 (fun p hp => hinj p (List.mem_cons_of_mem _ hp))
    show (k = m id → look .dead ((m' j, b.enc m' H') :: encH m' H' l) k = .dead) ∧ (k ≠ m id → LesB (look .dead ((m' j, b.enc m' H') :: encH m' H' l) k) (look .dead ((m j, b.enc m H) :: encH m H l) k))
    rw [look_cons, look_cons]
    by_cases e : j = id
    · subst e
      rw [hid, if_neg (Ne.symm hk)]
      exact ⟨i1, fun hne => by rw [if_neg (Ne.symm hne)]; exact i2 hne⟩
    · rw [hm' j e]
      refine ⟨fun ek => ?_, fun hne => ?_⟩
      · rw [if_neg (fun e' => e (hinj (j, b) (List.mem_cons_self ..) (by rw [← ek]; exact e')))]
        exact i1 ek
      · split
        · exact encB_les h b hr.1
        · exact i2 hne
theorem trunc_stl {id fr' e v k : Nat} (d : Option Nat) {fr : Bool} {rt : Ty} {xs xs' : E D (.list rt)} (hm : MOk m nx st) (hf : FrOk m st.blk st.fr F) (hb : st.blk id = .row fr rt xs e v) (hr : st.refs (fun _ => true) (fun i w => !(Nat.beq i id && Nat.beq w (v + 1))) = true)
    (hxs : (xs'.den : List rt.den) = (xs.den : List rt.den).take k) (hk : k ≤ List.length xs.den) (_hfr : fr' = 0) :
    StL F ((st.hset id (.row fr rt xs' e (v + 1))).put d (.osl id (v + 1))) ((⟨(st.enc m nx).regs, (nx, .row rt.size (((xs.den : List rt.den).map (rt.cells fr)).take k) e) :: (m id, .dead) :: (st.enc m nx).heap, nx + 1⟩ : ASt).put d (.osl nx k)) := by
  let b : SB D := .row fr rt xs' e (v + 1)
  let m' : Nat → Nat := fun j => if j = id then nx else m j
  have hid : m' id = nx := if_pos rfl
  have hm' : ∀ j, j ≠ id → m' j = m j := fun j h => if_neg h
  have hlid : st.blk id ≠ .dead := by rw [hb]; simp
  have hbl : ∀ j, (st.hset id b).blk j = if id = j then b else st.blk j := fun j => hset_blk st id b j
  have hc : MemLe m st.blk m' (st.hset id b).blk (fun _ => true) (fun i w => !(Nat.beq i id && Nat.beq w (v + 1))) := by
    refine ⟨fun j _ => ?_, fun j w hp => ?_⟩
    · by_cases e1 : j = id
      · subst e1
        left
        unfold isBox
        rw [hbl, if_pos rfl]
      · right
        refine ⟨?_, hm' j e1⟩
        unfold isBox
        rw [hbl, if_neg (Ne.symm e1)]
    · by_cases e1 : j = id
      · subst e1
        left
        have hw : Nat.beq w (v + 1) = false := by
          have hp : (!(Nat.beq j j && Nat.beq w (v + 1))) = true := hp
          rw [Nat.beq_refl, Bool.true_and] at hp
          simpa using hp
        unfold rowLen
        rw [hbl, if_pos rfl]
        show (bif Nat.beq w (v + 1) then _ else none) = none
        rw [hw]; rfl
      · right
        refine ⟨?_, hm' j e1⟩
        unfold rowLen
        rw [hbl, if_neg (Ne.symm e1)]
  unfold SSt.refs at hr
  simp only [Bool.and_eq_true] at hr
  obtain ⟨r1, r2, r3, r4, r5⟩ := hr
  have hlv : ∀ j, (st.hset id b).blk j ≠ .dead → st.blk j ≠ .dead := by
    intro j hj
    rw [hbl] at hj
    by_cases e1 : id = j
    · subst e1; exact hlid
    · rw [if_neg e1] at hj; exact hj
  have hmok : MOk m' (nx + 1) (st.hset id b) := by
    refine ⟨fun j hj => ?_, fun j j' hj hj' e1 => ?_, fun p hp => ?_⟩
    · by_cases e2 : j = id
      · rw [e2, hid]; omega
      · rw [hm' j e2]; have := hm.lt j (hlv j hj); omega
    · by_cases e2 : j = id
      · by_cases e3 : j' = id
        · omega
        · rw [hm' j' e3, e2, hid] at e1
          have := hm.lt j' (hlv j' hj'); omega
      · by_cases e3 : j' = id
        · rw [hm' j e2, e3, hid] at e1
          have := hm.lt j (hlv j hj); omega
        · rw [hm' j e2, hm' j' e3] at e1
          exact hm.inj j j' (hlv j hj) (hlv j' hj') e1
    · rcases List.mem_cons.1 hp with rfl | hp
      · exact ⟨hm.live hlid, by simp [b]⟩
      · exact hm.keys p hp
  have hle : LeS ((st.hset id b).enc m' (nx + 1)) ⟨(st.enc m nx).regs, (nx, .row rt.size (((xs.den : List rt.den).map (rt.cells fr)).take k) e) :: (m id, .dead) :: (st.enc m nx).heap, nx + 1⟩ := by
    refine ⟨fun j => ?_, fun j => ?_, rfl⟩
    · show Les (look .any (encR m' (st.hset id b).blk (st.regs ++ st.kp)) j) (look .any (encR m st.blk (st.regs ++ st.kp)) j)
      exact encR_les hc _ (by rw [refsR_append, r1, r2]; rfl) j
    · show LesB (look .dead ((m' id, b.enc m' (st.hset id b).blk) :: encH m' (st.hset id b).blk (st.heap ++ st.hk)) j) (look .dead ((nx, .row rt.size (((xs.den : List rt.den).map (rt.cells fr)).take k) e) :: (m id, .dead) :: encH m st.blk (st.heap ++ st.hk)) j)
      rw [look_cons, look_cons, hid]
      by_cases e1 : nx = j
      · rw [if_pos e1, if_pos e1]
        show LesB (.row rt.size ((xs'.den : List rt.den).map (rt.cells fr)) e) _
        rw [hxs, List.map_take]
        exact .refl _
      · rw [if_neg e1, if_neg e1, look_cons]
        obtain ⟨t1, t2⟩ := encH_tr hc hid (k := j) (Ne.symm e1) hm' (st.heap ++ st.hk) (by rw [refsH_append, r3, r4]; rfl) (fun p hp e2 => hm.inj _ _ (hm.key_live hp) hlid e2)
        by_cases e2 : m id = j
        · rw [if_pos e2, t1 e2.symm]
          exact .refl _
        · rw [if_neg e2]
          exact t2 (Ne.symm e2)
  refine ⟨m', nx + 1, put_mok hmok d _, LeS.rle ?_, ?_⟩
  · rw [put_enc]
    refine hle.put ?_
    have hi : rowLen (st.hset id b).blk id (v + 1) = some k := by
      unfold rowLen
      rw [hbl, if_pos rfl]
      show (bif Nat.beq (v + 1) (v + 1) then some (List.length xs'.den) else none) = some k
      rw [Nat.beq_refl, cond_true, hxs, List.length_take]
      congr 1
      omega
    rw [SV.enc, hi, hid]
    exact .refl _
  · rw [put_blk]
    have := hf.les' hc r5
    cases d <;> exact this
theorem truncS_ok {o : Oper} (hT : T.ok P) (hm : MOk m nx st) (hf : FrOk m st.blk st.fr F) (h : truncS T st o.op = some (r, gd)) (hg : gd.den = true) (hs : memSt st o.dst r = some st') (hd : dok o.dst n = true) : MemOk P n F o st st' m nx := by
  obtain ⟨d, op, ty, ps, af, g⟩ := o
  unfold truncS at h
  split at h
  · rename_i t x lo hi heq
    have heq : op = .slice t x lo hi none := heq
    subst heq
    have ey := enc_ev st m nx x
    have hn : (hi.map st.ev).isNone = hi.isNone := by cases hi <;> rfl
    split at h
    · rename_i e hu
      split at h
      · rename_i id ver Z sz b hx hI
        split at h
        · rename_i fr rt xs e' v hb
          split at h
          · rename_i l hh h1 h2
            cases hc : (Nat.beq ver v && (Nat.beq sz rt.size && (l.zero? && st.refs (fun _ => true) (fun i w => !(Nat.beq i id && Nat.beq w (v + 1)))))) with
            | false => rw [hc] at h; cases h
            | true =>
              rw [hc] at h
              simp only [cond_true, Option.some.injEq, Prod.mk.injEq] at h
              obtain ⟨rfl, rfl⟩ := h
              simp only [Bool.and_eq_true] at hc
              obtain ⟨c1, c2, c3, c4⟩ := hc
              have hsz := Nat.eq_of_beq_eq_true c2
              subst hsz
              obtain ⟨b1, _⟩ := bndI_ok (m := m) (nx := nx) h1
              obtain ⟨b2, b3⟩ := bndI_ok (m := m) (nx := nx) h2
              rw [zero_den c3] at b1
              obtain ⟨g1, g2, g3⟩ := bndG_den hg (fun ha => by rw [b3 ha]; exact Int.le_refl _)
              rw [hx, SV.enc, rowLen_eq hb c1] at ey
              have hbb := enc_blk hm (k := id) (by rw [hb]; simp)
              rw [hb, SB.enc] at hbb
              have hs : st' = (st.hset id (.row fr rt (.sub xs (.iL .i64 0) hh) e' (v + 1))).put d (.osl id (v + 1)) := by
                have hs : some (MR.app st d (.upd id (.row fr rt (.sub xs (.iL .i64 0) hh) e' (v + 1)) (some (.osl id (v + 1))))) = some st' := hs
                injection hs with hs
                exact hs.symm
              rw [hs]
              have g2' : (0 : Int) ≤ hh.den := g2
              have g3' : (hh.den : Int) ≤ (List.length xs.den : Int) := g3
              refine ⟨_, op_trunc ey hbb (rows_len _).symm b1 b2 (allP_at hT.und hu) (allP_at hT.inf hI) g2' g3' hd, ?_⟩
              exact trunc_stl d hm hf hb c4 (xs' := .sub xs (.iL .i64 0) hh) (k := (hh.den : Int).toNat) rfl (Int.toNat_le.2 g3') rfl
          · cases h
        · cases h
      · cases h
    · cases h
  · cases h
theorem newArr_ok (hm : MOk m nx st) (hf : FrOk m st.blk st.fr F) {fr : Bool} {rt : Ty} {xs : E D (.list rt)} {e : TypeId} {rows : List (List AV)} {sz : Nat} (hsz : rt.size = sz) (hr : st.refs (nB st) (nR st) = true) (hb : LesRs ((xs.den : List rt.den).map (rt.cells fr)) rows) (d : Option Nat) {L : Nat} (hL : rows.length = L) :
    StL F (MR.app st d (.newA (.row fr rt xs e 0))) (((st.enc m nx).hnew (.row sz rows e)).put d (.elt (st.enc m nx).nx L 0 0)) := by
  subst hsz
  obtain ⟨m', nx', h1, h2, h3, h4⟩ := hnew_les (b := .row fr rt xs e 0) (b' := .row rt.size rows e) hm (.refl _) hf (by simp) hr (fun m' hc => .rows hb)
  refine ⟨m', nx', put_mok h1 d _, LeS.rle ?_, ?_⟩
  · rw [MR.app, put_enc]
    refine h2.put ?_
    have hi : rowLen (st.hnew (.row fr rt xs e 0)).blk st.nx 0 = some (List.length xs.den) := by unfold rowLen; rw [hnew_blk, if_pos rfl]; rfl
    show Les (SV.enc m' _ (.elt st.nx 0 (.iL .i64 0) 0)) _
    rw [SV.enc, hi, h4, ← hL, ← hb.len, rows_len]
    exact .refl _
  · rw [MR.app, put_blk]
    cases d <;> exact h3
theorem chunk_flat (sz : Nat) : ∀ (k : Nat) (cs : List AV), cs.length = k * sz → (chunk sz k cs).flatten = cs
  | 0, cs, h => by
    have : cs = [] := List.eq_nil_of_length_eq_zero (by omega)
    subst this; rfl
  | k + 1, cs, h => by
    rw [Nat.add_mul, Nat.one_mul] at h
    rw [chunk, List.flatten_cons, chunk_flat sz k _ (by rw [List.length_drop]; omega), List.take_append_drop]
theorem chunk_row (sz : Nat) : ∀ (k : Nat) (cs : List AV), cs.length = k * sz → ∀ r ∈ chunk sz k cs, r.length = sz
  | 0, cs, h => by intro r hr; simp [chunk] at hr
  | k + 1, cs, h => by
    rw [Nat.add_mul, Nat.one_mul] at h
    intro r hr
    rw [chunk] at hr
    rcases List.mem_cons.1 hr with rfl | hr
    · rw [List.length_take]; omega
    · exact chunk_row sz k _ (by rw [List.length_drop]; omega) r hr
theorem arrRow_ok {o : Oper} {e : TypeId} {cs : List (SV D)} (hm : MOk m nx st) (hf : FrOk m st.blk st.fr F) (h : arrRow T e cs = some (r, gd)) (hs : memSt st o.dst r = some st')
    (op : ∀ (sz : Nat) (rows : List (List AV)), SV.encL m st.blk cs = rows.flatten → 0 < sz → 0 < rows.length → rows.length ≤ maxLen → (∀ r ∈ rows, r.length = sz) → OpV P n o (st.enc m nx) (((st.enc m nx).hnew (.row sz rows e)).put o.dst (.elt (st.enc m nx).nx rows.length 0 0))) : MemOk P n F o st st' m nx := by
  unfold arrRow at h
  split at h
  · rename_i L el hu
    split at h
    · rename_i Z sz b rt hI hty
      cases hc : (Nat.beq rt.size sz && Nat.blt 0 sz && Nat.blt 0 L && Nat.ble L 65536 && Nat.beq cs.length (L * sz)) with
      | false => rw [hc] at h; cases h
      | true =>
        rw [hc] at h
        simp only [cond_true] at h
        simp only [Bool.and_eq_true] at hc
        obtain ⟨⟨⟨⟨c1, c2⟩, c3⟩, c4⟩, c5⟩ := hc
        have c1 := Nat.eq_of_beq_eq_true c1
        have c2 : 0 < sz := by simpa using c2
        have c3 : 0 < L := by simpa using c3
        have c4 := Nat.le_of_ble_eq_true c4
        have c5 := Nat.eq_of_beq_eq_true c5
        have hlen : (SV.encL m st.blk cs).length = L * sz := by rw [encL_length]; exact c5
        have key := op sz (chunk sz L (SV.encL m st.blk cs)) (chunk_flat sz L _ hlen).symm c2 (by rw [chunk_length]; exact c3) (by rw [chunk_length]; unfold maxLen; omega) (chunk_row sz L _ hlen)
        have fin : ∀ fr xs, exRows fr rt (chunkS sz L cs) = some xs → r = .newA (.row fr rt xs e 0) → MemOk P n F o st st' m nx := by
          intro fr xs hx er
          subst er
          rw [memSt] at hs
          cases hr : st.refs (nB st) (nR st) with
          | false => rw [hr] at hs; cases hs
          | true =>
            rw [hr] at hs
            injection hs with hs
            subst hs
            exact ⟨_, key, newArr_ok hm hf c1 hr (chunkS_at hx) o.dst rfl⟩
        split at h
        · rename_i xs hx
          simp only [Option.some.injEq, Prod.mk.injEq] at h
          exact fin _ _ hx h.1.symm
        · split at h
          · rename_i xs hx
            simp only [Option.some.injEq, Prod.mk.injEq] at h
            exact fin _ _ hx h.1.symm
          · cases h
    · cases h
  · cases h
theorem allocA_ok {e : TypeId} (hT : T.ok P) (hm : MOk m nx st) (hf : FrOk m st.blk st.fr F) (h : allocA T e = some (r, gd)) (hs : memSt st d r = some st') (hd : dok d n = true) : MemOk P n F ⟨d, .alloc e, ty, ps, af, g⟩ st st' m nx := by
  unfold allocA at h
  split at h
  · rename_i Z s b h1
    cases hc : allOne (Z.cells.toList.map avOf) with
    | false => rw [hc] at h; cases h
    | true =>
      rw [hc] at h
      simp only [cond_true] at h
      refine arrRow_ok hm hf h hs fun sz rows e1 e2 e3 e4 e5 => ?_
      rw [zeroS_enc] at e1
      exact op_alloc_arr (allP_at hT.inf h1) e1 (by rw [← e1]; exact hc) e2 e3 e4 e5 hd
  · cases h
theorem boxA_ok {e : TypeId} (hm : MOk m nx st) (hf : FrOk m st.blk st.fr F) (h : boxA T st e (st.ev y) = some (r, gd)) (hs : memSt st d r = some st') (hd : dok d n = true) : MemOk P n F ⟨d, .box e y, ty, ps, af, g⟩ st st' m nx := by
  unfold boxA at h
  cases hc : allOneS st (st.ev y).cells with
  | false => rw [hc] at h; cases h
  | true =>
    rw [hc] at h
    simp only [cond_true] at h
    refine arrRow_ok hm hf h hs fun sz rows e1 e2 e3 e4 e5 => ?_
    exact op_box_arr (by rw [enc_ev, enc_cells, e1]) (by rw [← e1]; exact allOneS_enc hc) e2 e3 e4 e5 hd
theorem storeA_ok (hT : T.ok P) (hm : MOk m nx st) (hf : FrOk m st.blk st.fr F) (h : storeA T st t (st.ev y) (st.ev z) = some (r, gd)) (hg : gd.den = true) (hs : memSt st none r = some st') : MemOk P n F ⟨none, .store t y z, ty, ps, af, g⟩ st st' m nx := by
  have ey := enc_ev st m nx y
  have ez := enc_ev st m nx z
  have hzc := enc_cells (m := m) (H := st.blk) (st.ev z)
  rw [← ez] at hzc
  generalize st.ev y = v at h ey
  unfold storeA at h
  split at h
  · rename_i L el Z s b id ver k2 i o hu hI
    split at h
    · rename_i fr rt xs e ver' hb
      cases hc : (Nat.beq ver ver' && i.zero? && Nat.beq o 0 && Nat.blt 0 L && Nat.beq s (L * rt.size) && allOneS st (st.ev z).cells && Nat.beq (st.ev z).cells.length s) with
      | false => rw [hc] at h; cases h
      | true =>
        rw [hc] at h
        simp only [cond_true] at h
        simp only [Bool.and_eq_true] at hc
        obtain ⟨⟨⟨⟨⟨⟨c1, c2⟩, c3⟩, c4⟩, c5⟩, c6⟩, c7⟩ := hc
        split at h
        · rename_i xs' hx
          simp only [Option.some.injEq, Prod.mk.injEq] at h
          obtain ⟨rfl, rfl⟩ := h
          simp only [memSt, Option.some.injEq] at hs
          subst hs
          have h3 := Nat.eq_of_beq_eq_true c3
          subst h3
          have c4 : 0 < L := by simpa using c4
          have c5 := Nat.eq_of_beq_eq_true c5
          have c7 := Nat.eq_of_beq_eq_true c7
          have hl : (List.length xs.den : Int) = (L : Int) := of_decide_eq_true hg
          have hlive : st.blk id ≠ .dead := by rw [hb]; simp
          have hbb := enc_blk hm hlive
          rw [hb, SB.enc] at hbb
          rw [SV.enc, rowLen_eq hb c1, zero_den c2] at ey
          have hch := chunkS_at (m := m) (H := st.blk) hx
          have hlen : (SV.encL m st.blk (st.ev z).cells).length = L * rt.size := by rw [encL_length, c7, c5]
          have hfl := chunk_flat rt.size L _ hlen
          have hone := allOneS_enc (m := m) c6
          refine ⟨_, op_store_arr (rows' := chunk rt.size L (SV.encL m st.blk (st.ev z).cells)) ey hbb (rows_len _).symm (by omega) (by rw [hfl]; exact hzc) (by rw [hfl]; exact hone) (allP_at hT.inf hI) (by rw [hfl, hlen, c5]) (by rw [chunk_length]; omega) (chunk_row rt.size L _ hlen), ?_⟩
          refine StL.of3 (hset_les hm (.refl _) hlive (by simp) (memLe_set hb ?_) (refs_all st) ?_ hf)
          · have h1 := hch.len
            rw [chunk_length, List.length_map] at h1
            omega
          · exact .rows hch
        · cases h
    · cases h
  · cases h
theorem copyS_ok {t' : TypeId} (hT : T.ok P) (hm : MOk m nx st) (hf : FrOk m st.blk st.fr F) (h : copyS T st t (st.ev y) (st.ev z) = some (r, gd)) (hs : memSt st d r = some st') (hd : dok d n = true) : MemOk P n F ⟨d, .call ⟨.builtin .copy, ⟨[y, z]⟩, ⟨[t, t']⟩⟩, ty, ps, af, g⟩ st st' m nx := by
  have ey := enc_ev st m nx y
  generalize st.ev y = v at h ey
  unfold copyS at h
  split at h
  · rename_i e hu
    split at h
    · rename_i Z sz b id ver hI
      split at h
      · rename_i fr rt xs e' v' hb
        cases hc : (Nat.beq ver v' && (Nat.beq sz rt.size && rt.flat)) with
        | false => rw [hc] at h; cases h
        | true =>
          rw [hc] at h
          simp only [cond_true] at h
          simp only [Bool.and_eq_true] at hc
          obtain ⟨hv, hsz, hfl⟩ := hc
          have hsz := Nat.eq_of_beq_eq_true hsz
          subst hsz
          split at h
          · rename_i fr' ys hy
            simp only [Option.some.injEq, Prod.mk.injEq] at h
            obtain ⟨rfl, rfl⟩ := h
            simp only [memSt, Option.some.injEq] at hs
            subst hs
            have hlive : st.blk id ≠ .dead := by rw [hb]; simp
            have hbb := enc_blk hm hlive
            rw [hb, SB.enc] at hbb
            rw [SV.enc, rowLen_eq hb hv] at ey
            have hsrc := srcC_ok (nx := nx) hfl hm hy
            obtain ⟨k, hk⟩ : ∃ k, k = Nat.min (List.length ys.den) (List.length xs.den) := ⟨_, rfl⟩
            have hk1 : k ≤ List.length ys.den := by rw [hk]; exact Nat.min_le_left _ _
            have hk2 : k ≤ List.length xs.den := by rw [hk]; exact Nat.min_le_right _ _
            have hkI : (Min.min (List.length ys.den : Int) (List.length xs.den : Int)) = (k : Int) := by
              rw [hk]
              show (Min.min (List.length ys.den : Int) (List.length xs.den : Int)) = ((Min.min (List.length ys.den) (List.length xs.den) : Nat) : Int)
              omega
            have hden : (E.app (.sub ys (.iL .i64 0) (.ib .min (.len ys) (.len xs))) (.sub xs (.ib .min (.len ys) (.len xs)) (.len xs))).den = (ys.den : List rt.den).take k ++ (xs.den : List rt.den).drop k := by
              show (((ys.den : List rt.den).take (Min.min (List.length ys.den : Int) (List.length xs.den : Int)).toNat).drop (0 : Int).toNat) ++ (((xs.den : List rt.den).take ((List.length xs.den : Int)).toNat).drop (Min.min (List.length ys.den : Int) (List.length xs.den : Int)).toNat) = _
              rw [hkI, Int.toNat_natCast, Int.toNat_natCast, List.take_length]
              rfl
            have hlen : List.length (E.app (.sub ys (.iL .i64 0) (.ib .min (.len ys) (.len xs))) (.sub xs (.ib .min (.len ys) (.len xs)) (.len xs))).den = List.length xs.den := by
              rw [hden]
              show List.length (List.append _ _) = _
              rw [List.append_eq, List.length_append, List.length_take, List.length_drop]
              omega
            have hop := op_copy (P := P) (n := n) (d := d) (t' := t') (ty := ty) (ps := ps) (af := af) (g := g) ey hbb (rows_len _).symm rfl hsrc (allP_at hT.und hu) (allP_at hT.inf hI) hd
            rw [rows_len, ← hk] at hop
            refine ⟨_, hop, ?_⟩
            have hst := hset_les (b := .row (fr && fr') rt (.app (.sub ys (.iL .i64 0) (.ib .min (.len ys) (.len xs))) (.sub xs (.ib .min (.len ys) (.len xs)) (.len xs))) e' v') (b' := .row rt.size (((ys.den : List rt.den).map (rt.cells fr')).take k ++ ((xs.den : List rt.den).map (rt.cells fr)).drop k) e') hm (.refl _) hlive (by simp) (memLe_set hb hlen) (refs_all st) (by
              rw [SB.enc]
              refine .rows ?_
              rw [hden, List.map_append, ← List.map_take, ← List.map_drop]
              exact (rows_le (by cases fr <;> cases fr' <;> rfl) rt _).append (rows_le (by cases fr <;> cases fr' <;> rfl) rt _)) hf
            refine ⟨m, nx, put_mok hst.1 d _, LeS.rle ?_, ?_⟩
            · show LeS (((st.hset id _).put d (.int .i64 (.ib .min (.len ys) (.len xs)))).enc m nx) _
              rw [put_enc]
              refine hst.2.1.put ?_
              rw [SV.enc]
              have : ((E.ib IB.min (E.len ys) (E.len xs)).den : Int) = (k : Int) := hkI
              rw [this]
              exact .refl _
            · show FrOk m ((st.hset id _).put d (.int .i64 (.ib .min (.len ys) (.len xs)))).blk _ _
              rw [put_blk]
              have := hst.2.2
              cases d <;> exact this
          · cases h
      · cases h
    · cases h
  · cases h
theorem mem_ok {o : Oper} (hT : T.ok P) (hm : MOk m nx st) (hf : FrOk m st.blk st.fr F) (h : mem T st o.dst o.op = some (r, gd)) (hg : gd.den = true) (hs : memSt st o.dst r = some st') (hd : dok o.dst n = true) : MemOk P n F o st st' m nx := by
  unfold mem at h
  split at h
  · rename_i r' h0
    injection h with h
    subst h
    obtain ⟨d, op, ty, ps, af, g⟩ := o
    have hd : dok d n = true := hd
    simp only at h0 hs
    unfold memN at h0
    split at h0
    · exact allocA_ok hT hm hf h0 hs hd
    · exact boxA_ok hm hf h0 hs hd
    · split at h0
      · exact storeA_ok hT hm hf h0 hg hs
      · cases h0
    · exact copyS_ok hT hm hf h0 hs hd
    · cases h0
  · exact mem0_ok hT hm hf h hg hs hd
end
end Go.Proofs.Ytedjnjgnadbkaaa
/- Decompiling: cuts: what is carried through a place of the code, what is kept there as it is. No program in sight. -/
namespace Go.Proofs.Ytedjnjgnadbkaaa
open Go Go.RowKit

/-- shapes of values at a cut -/
inductive SK where
  | any
  | und
  | int (k : IntKind)
  | bool
  | str
  | nilp
  | nils
  | nilf
  | ro (fr : Bool) (t : Ty)
  | pk (fr : Bool) (t : Ty) (off : Nat)
  | osl (b ver : Nat)
  | box (b off : Nat)
  | elt (b ver : Nat) (k : IntKind) (off : Nat)
  | agg (l : List SK)
  | tup (l : List SK)
  | fn (f : FuncId) (l : List SK)
mutual
def SK.ty : SK → Ty
  | .int k => .int k
  | .bool => .bool
  | .str => .str
  | .ro _ t => .list t
  | .pk _ t _ => t
  | .elt _ _ k _ => .int k
  | .agg l => SK.tyL l
  | .tup l => SK.tyL l
  | .fn _ l => SK.tyL l
  | _ => .unit
def SK.tyL : List SK → Ty
  | [] => .unit
  | s :: l => SK.tyC s.ty l.isEmpty (SK.tyL l)
def SK.tyC (a : Ty) (last : Bool) (b : Ty) : Ty := match last with
  | true => a
  | false => .pair a b
end
def mpI (mp : List (Nat × Nat)) (b : Nat) : Nat := match lk mp b with
  | some i => i
  | none => b
section
variable {V : Ty → Type}
def isBoxS (b : SB V) : Bool := match b with
  | .box .. => true
  | _ => false
def isVer (b : SB V) (ver : Nat) : Bool := match b with
  | .row _ _ _ _ v => Nat.beq ver v
  | _ => false
def pairC {a b : Ty} (last : Bool) (x : E V a) (y : E V b) : E V (SK.tyC a last b) := match last with
  | true => x
  | false => .pair x y
def fstC {a b : Ty} (last : Bool) (x : E V (SK.tyC a last b)) : E V a := match last, x with
  | true, x => x
  | false, x => .fst' x
def sndC {a b : Ty} (last : Bool) (h : last = true → b = .unit) (x : E V (SK.tyC a last b)) : E V b := match last, h, x with
  | true, h, _ => (h rfl).symm ▸ .uni
  | false, _, x => .snd' x
def prjInt (k : IntKind) (x : SV V) : Option (E V (.int k)) := match x with
  | .int k' e => if h : k' = k then some (h ▸ e) else none
  | _ => none
def prjBool (x : SV V) : Option (E V .bool) := match x with
  | .bool e => some e
  | _ => none
def prjStr (x : SV V) : Option (E V .str) := match x with
  | .str e => some e
  | _ => none
def uniIf (c : Bool) : Option (E V .unit) := bif c then some .uni else none
def isUnd (x : SV V) : Bool := match x with
  | .und => true
  | _ => false
def isNilp (x : SV V) : Bool := match x with
  | .nilp => true
  | _ => false
def isNils (x : SV V) : Bool := match x with
  | .nils => true
  | _ => false
def isNilf (x : SV V) : Bool := match x with
  | .nilf => true
  | _ => false
def prjRo (fr : Bool) (t : Ty) (x : SV V) : Option (E V (.list t)) := match x with
  | .ro fr' t' e => bif !fr || fr' then (match Ty.eqd t' t with
    | some ⟨h⟩ => some (h ▸ e)
    | none => none) else none
  | .nils => some (.nil t)
  | _ => none
def prjPk (fr : Bool) (t : Ty) (o : Nat) (x : SV V) : Option (E V t) := match x with
  | .pk fr' t' e o' => bif (fr == fr') && Nat.beq o o' then (match Ty.eqd t' t with
    | some ⟨h⟩ => some (h ▸ e)
    | none => none) else none
  | _ => none
def isOsl (H : Nat → SB V) (mp : List (Nat × Nat)) (b : Nat) (x : SV V) : Bool := match x with
  | .osl id ver => Nat.beq id (mpI mp b) && isVer (H id) ver
  | _ => false
def isBoxA (H : Nat → SB V) (mp : List (Nat × Nat)) (b o : Nat) (x : SV V) : Bool := match x with
  | .box id o' => Nat.beq id (mpI mp b) && Nat.beq o o' && isBoxS (H id)
  | _ => false
def prjElt (H : Nat → SB V) (mp : List (Nat × Nat)) (b : Nat) (k : IntKind) (o : Nat) (x : SV V) : Option (E V (.int k)) := match x with
  | .elt (k := k') id ver i o' => bif Nat.beq id (mpI mp b) && Nat.beq o o' && isVer (H id) ver then (if h : k' = k then some (h ▸ i) else none) else none
  | _ => none
def inAgg {α : Type} (x : SV V) (f : List (SV V) → Option α) : Option α := match x with
  | .agg cs => f cs
  | _ => none
def inTup {α : Type} (x : SV V) (f : List (SV V) → Option α) : Option α := match x with
  | .tup cs => f cs
  | _ => none
def inFn {α : Type} (F : FuncId) (x : SV V) (f : List (SV V) → Option α) : Option α := match x with
  | .fn F' cs => bif Nat.beq F F' then f cs else none
  | _ => none
mutual
def prjK (H : Nat → SB V) (mp : List (Nat × Nat)) : (s : SK) → SV V → Option (E V s.ty)
  | .any, _ => some .uni
  | .und, x => uniIf (isUnd x)
  | .int k, x => prjInt k x
  | .bool, x => prjBool x
  | .str, x => prjStr x
  | .nilp, x => uniIf (isNilp x)
  | .nils, x => uniIf (isNils x)
  | .nilf, x => uniIf (isNilf x)
  | .ro fr t, x => prjRo fr t x
  | .pk fr t o, x => prjPk fr t o x
  | .osl b _, x => uniIf (isOsl H mp b x)
  | .box b o, x => uniIf (isBoxA H mp b o x)
  | .elt b _ k o, x => prjElt H mp b k o x
  | .agg l, x => inAgg x (prjL H mp l)
  | .tup l, x => inTup x (prjL H mp l)
  | .fn f l, x => inFn f x (prjL H mp l)
def prjL (H : Nat → SB V) (mp : List (Nat × Nat)) : (l : List SK) → List (SV V) → Option (E V (SK.tyL l))
  | [], [] => some .uni
  | [], _ :: _ => none
  | _ :: _, [] => none
  | s :: l, c :: cs => match prjK H mp s c, prjL H mp l cs with
    | some x, some y => some (pairC l.isEmpty x y)
    | _, _ => none
end
theorem tyL_nil {l : List SK} (h : l.isEmpty = true) : SK.tyL l = .unit := by
  cases l with
  | nil => rfl
  | cons _ _ => cases h
mutual
def injK : (s : SK) → E V s.ty → SV V
  | .any, _ => .any
  | .und, _ => .und
  | .int k, e => .int k e
  | .bool, e => .bool e
  | .str, e => .str e
  | .nilp, _ => .nilp
  | .nils, _ => .nils
  | .nilf, _ => .nilf
  | .ro fr t, e => .ro fr t e
  | .pk fr t o, e => .pk fr t e o
  | .osl b v, _ => .osl b v
  | .box b o, _ => .box b o
  | .elt b v _ o, e => .elt b v e o
  | .agg l, e => .agg (injL l e)
  | .tup l, e => .tup (injL l e)
  | .fn f l, e => .fn f (injL l e)
def injL : (l : List SK) → E V (SK.tyL l) → List (SV V)
  | [], _ => []
  | s :: l, e => injK s (fstC l.isEmpty e) :: injL l (sndC l.isEmpty tyL_nil e)
end
end
/-- what is carried: registers, boxes, rows -/
inductive Itm where
  | reg (d : Nat) (s : SK)
  | box (b : Nat) (l : List SK) (e : TypeId)
  | row (b : Nat) (fr : Bool) (t : Ty) (e : TypeId) (ver : Nat)
def Itm.ty : Itm → Ty
  | .reg _ s => s.ty
  | .box _ l _ => SK.tyL l
  | .row _ _ t _ _ => .list t
def itmsTy : List Itm → Ty
  | [] => .unit
  | i :: l => SK.tyC i.ty l.isEmpty (itmsTy l)
theorem itmsTy_nil {l : List Itm} (h : l.isEmpty = true) : itmsTy l = .unit := by
  cases l with
  | nil => rfl
  | cons _ _ => cases h
/-- a cut's signature: registers and blocks kept as they are, registers that hold nothing that varies, what is carried; ex: new numbers of blocks; nl: registers whose nil becomes an empty row -/
structure Sig where
  keep : List Nat
  keepB : List Nat
  stat : List (Nat × SK)
  items : List Itm
  ex : Nat
  nl : List (Nat × Ty × TypeId)
section
variable {V : Ty → Type}
def prjI (st : SSt V) (mp : List (Nat × Nat)) : (i : Itm) → Option (E V i.ty)
  | .reg d s => prjK st.blk mp s (st.get d)
  | .box b l e => match st.blk (mpI mp b) with
    | .box cs e' => bif Nat.beq e e' then prjL st.blk mp l cs else none
    | _ => none
  | .row b fr t e _ => match st.blk (mpI mp b) with
    | .row fr' t' xs e' _ => bif Nat.beq e e' && (!fr || fr') then (match Ty.eqd t' t with
      | some ⟨h⟩ => some (h ▸ xs)
      | none => none) else none
    | _ => none
def prjIs (st : SSt V) (mp : List (Nat × Nat)) : (l : List Itm) → Option (E V (itmsTy l))
  | [] => some .uni
  | i :: l => match prjI st mp i, prjIs st mp l with
    | some x, some y => some (pairC l.isEmpty x y)
    | _, _ => none
def injR : (l : List Itm) → E V (itmsTy l) → List (Nat × SV V)
  | [], _ => []
  | .reg d s :: l, e => (d, injK s (fstC l.isEmpty e)) :: injR l (sndC l.isEmpty itmsTy_nil e)
  | .box .. :: l, e => injR l (sndC l.isEmpty itmsTy_nil e)
  | .row .. :: l, e => injR l (sndC l.isEmpty itmsTy_nil e)
def injH : (l : List Itm) → E V (itmsTy l) → List (Nat × SB V)
  | [], _ => []
  | .reg .. :: l, e => injH l (sndC l.isEmpty itmsTy_nil e)
  | .box b ks ty :: l, e => (b, .box (injL ks (fstC l.isEmpty e)) ty) :: injH l (sndC l.isEmpty itmsTy_nil e)
  | .row b fr t ty v :: l, e => (b, .row fr t (fstC l.isEmpty e) ty v) :: injH l (sndC l.isEmpty itmsTy_nil e)
def injS (s : SK) : SV V := match Ty.eqd .unit s.ty with
  | some ⟨h⟩ => injK s (h ▸ .uni)
  | none => .any
def statR (l : List (Nat × SK)) : List (Nat × SV V) := l.map fun p => (p.1, injS p.2)
def keepR (st : SSt V) (l : List Nat) : List (Nat × SV V) := l.map fun d => (d, st.get d)
def keepH (st : SSt V) (l : List Nat) : List (Nat × SB V) := l.map fun b => (b, st.blk b)
/-- the state behind a cut -/
def inj (st : SSt V) (sg : Sig) (e : E V (itmsTy sg.items)) : SSt V :=
  ⟨statR sg.stat ++ injR sg.items e, keepR st sg.keep ++ st.kp, injH sg.items e, keepH st sg.keepB ++ st.hk, st.fr, st.nx + sg.ex⟩
/-- a place in a box (1000000 + 1000 id + cell), or a register -/
def matB (d : Nat) : Option (Nat × Nat) := bif Nat.blt d 1000000 then none else some ((d - 1000000) / 1000, (d - 1000000) % 1000)
/-- nil slices made empty rows: in registers, in boxes -/
def mat : List (Nat × Ty × TypeId) → SSt V → SSt V
  | [], st => st
  | (d, t, e) :: l, st => match matB d with
    | none => (match st.get d with
      | .nils => bif Nat.blt 0 t.size && (st.refs (fun id => !Nat.beq id st.nx) (fun id _ => !Nat.beq id st.nx)) then mat l ((st.hnew (.row true t (.nil t) e 0)).put (some d) (.osl st.nx 0)) else mat l st
      | _ => mat l st)
    | some (id, k) => (match st.blk id with
      | .box cs e' => match cs[k]? with
        | some .nils => bif Nat.blt 0 t.size && (st.refs (fun id => !Nat.beq id st.nx) (fun id _ => !Nat.beq id st.nx)) && SV.refsL (fun id => !Nat.beq id st.nx) (fun id _ => !Nat.beq id st.nx) cs then mat l ((st.hnew (.row true t (.nil t) e 0)).hset id (.box (setRS cs k [.osl st.nx 0]) e')) else mat l st
        | _ => mat l st
      | _ => mat l st)
/-- a state with what is kept laid aside -/
def lay (st : SSt V) (sg : Sig) : SSt V :=
  ⟨st.regs.filter fun p => !hasN sg.keep p.1, keepR st sg.keep ++ st.kp, st.heap.filter fun p => !hasN sg.keepB p.1, keepH st sg.keepB ++ st.hk, st.fr, st.nx⟩
/-- the same values, laid back -/
def unlay (st : SSt V) (st' : SSt V) (sg : Sig) : SSt V :=
  ⟨st'.regs ++ keepR st sg.keep, st.kp, st'.heap ++ keepH st sg.keepB, st.hk, st.fr, st'.nx⟩
def itemB : List Itm → List Nat
  | [] => []
  | .reg .. :: l => itemB l
  | .box b .. :: l => b :: itemB l
  | .row b .. :: l => b :: itemB l
def disj (l m : List Nat) : Bool := l.all fun a => !hasN m a
def nodupN : List Nat → Bool
  | [] => true
  | a :: l => !hasN l a && nodupN l
/-- which actual block a block of the signature stands for -/
def mapK (mp : List (Nat × Nat)) (b id : Nat) : List (Nat × Nat) := match lk mp b with
  | some _ => mp
  | none => (b, id) :: mp
mutual
def mapS (mp : List (Nat × Nat)) : SK → SV V → List (Nat × Nat)
  | .osl b _, .osl id _ => mapK mp b id
  | .box b _, .box id _ => mapK mp b id
  | .elt b _ _ _, .elt id _ _ _ => mapK mp b id
  | .agg l, .agg cs => mapL mp l cs
  | .tup l, .tup cs => mapL mp l cs
  | .fn _ l, .fn _ cs => mapL mp l cs
  | _, _ => mp
def mapL (mp : List (Nat × Nat)) : List SK → List (SV V) → List (Nat × Nat)
  | s :: l, c :: cs => mapL (mapS mp s c) l cs
  | _, _ => mp
end
def mapSt (st : SSt V) : List (Nat × SK) → List (Nat × Nat) → List (Nat × Nat)
  | [], mp => mp
  | (d, s) :: l, mp => mapSt st l (mapS mp s (st.get d))
def mapIs (st : SSt V) : List Itm → List (Nat × Nat) → List (Nat × Nat)
  | [], mp => mp
  | .reg d s :: l, mp => mapIs st l (mapS mp s (st.get d))
  | .box b ks _ :: l, mp => mapIs st l (match st.blk (mpI mp b) with
    | .box cs _ => mapL mp ks cs
    | _ => mp)
  | .row .. :: l, mp => mapIs st l mp
def mapOf (st : SSt V) (sg : Sig) : List (Nat × Nat) := (mapIs st sg.items (mapSt st sg.stat [])).filter fun p => hasN (itemB sg.items) p.1
/-- blocks and rows that may be named by what is kept -/
def cutB (Hs : Nat → SB V) (mp : List (Nat × Nat)) (H : Nat → SB V) (id : Nat) : Bool := !isBoxS (Hs id) || (Nat.beq (mpI mp id) id && isBoxS (H id))
def cutR (Hs : Nat → SB V) (mp : List (Nat × Nat)) (H : Nat → SB V) (id v : Nat) : Bool := !isVer (Hs id) v || (Nat.beq (mpI mp id) id && isVer (H id) v)
def cutOk (base : SSt V) (sg : Sig) (mp : List (Nat × Nat)) (st : SSt V) (Hs : Nat → SB V) : Bool :=
  disj (st.regs.map (·.1)) ((keepR base sg.keep ++ base.kp).map (·.1)) &&
  (disj (st.heap.map (·.1)) ((keepH base sg.keepB ++ base.hk).map (·.1)) &&
  ((sg.stat.all fun p => (Ty.eqd .unit p.2.ty).isSome && (prjK st.blk mp p.2 (st.get p.1)).isSome) &&
  (nodupN (itemB sg.items ++ (keepH base sg.keepB ++ base.hk).map (·.1)) &&
  (nodupN ((itemB sg.items).map (mpI mp) ++ (keepH base sg.keepB ++ base.hk).map (·.1)) &&
  (((itemB sg.items).all fun b => Nat.blt b (base.nx + sg.ex)) &&
  ((mp.all fun p => hasN (itemB sg.items) p.1) &&
  (refsR (cutB Hs mp st.blk) (cutR Hs mp st.blk) (keepR base sg.keep ++ base.kp) &&
  (refsH (cutB Hs mp st.blk) (cutR Hs mp st.blk) (keepH base sg.keepB ++ base.hk) &&
  (refsF (cutB Hs mp st.blk) (cutR Hs mp st.blk) base.fr &&
  ((keepH base sg.keepB ++ base.hk).all fun p => Nat.blt p.1 base.nx))))))))))
/-- arriving at a cut: what is carried, if all fits -/
def arr (base : SSt V) (sg : Sig) (mp : List (Nat × Nat)) (st : SSt V) : Option (E V (itmsTy sg.items)) :=
  match prjIs st mp sg.items with
  | none => none
  | some e => bif cutOk base sg mp st (inj base sg e).blk then some e else none
end
/-! ### What a cut keeps -/
theorem pairC_den {a b : Ty} (last : Bool) (x : E D a) (y : E D b) (x' : E D (SK.tyC a last b)) (h : x'.den = (pairC last x y).den) : (fstC last x').den = x.den := by
  cases last with
  | true => exact h
  | false => exact (fst'_den (a := a) (b := b) x').trans (congrArg Prod.fst h)
theorem den_uni {t : Ty} (h : t = .unit) (x y : t.den) : x = y := by subst h; rfl
theorem sndC_den {a b : Ty} (last : Bool) (x : E D a) (y : E D b) (x' : E D (SK.tyC a last b)) (h : x'.den = (pairC last x y).den) (hl : last = true → b = .unit) : (sndC last hl x').den = y.den := by
  cases last with
  | true => exact den_uni (hl rfl) _ _
  | false => exact (snd'_den (a := a) (b := b) x').trans (congrArg Prod.snd h)
theorem uniIf_some {c : Bool} {e : E D .unit} (h : uniIf c = some e) : c = true := by
  cases c with
  | true => rfl
  | false => cases h
/-- how the memory behind a cut lies to the one ahead of it -/
structure CutM (H : Nat → SB D) (Hs : Nat → SB D) (mp : List (Nat × Nat)) : Prop where
  row : ∀ b v n id ver, rowLen Hs b v = some n → id = mpI mp b → isVer (H id) ver = true → rowLen H id ver = some n
theorem isBoxS_eq {H : Nat → SB D} (id : Nat) : isBox H id = isBoxS (H id) := by unfold isBox isBoxS; cases H id <;> rfl
theorem inAgg_some {α : Type} {x : SV D} {f : List (SV D) → Option α} {y : α} (h : inAgg x f = some y) : ∃ cs, x = .agg cs ∧ f cs = some y := by
  cases x <;> first | (cases h; done) | exact ⟨_, rfl, h⟩
theorem inTup_some {α : Type} {x : SV D} {f : List (SV D) → Option α} {y : α} (h : inTup x f = some y) : ∃ cs, x = .tup cs ∧ f cs = some y := by
  cases x <;> first | (cases h; done) | exact ⟨_, rfl, h⟩
theorem inFn_some {α : Type} {F : FuncId} {x : SV D} {f : List (SV D) → Option α} {y : α} (h : inFn F x f = some y) : ∃ cs, x = .fn F cs ∧ f cs = some y := by
  cases x <;> try (cases h; done)
  rename_i F' cs
  unfold inFn at h
  cases hb : Nat.beq F F' with
  | false => simp only [hb] at h; cases h
  | true =>
    simp only [hb] at h
    have := Nat.eq_of_beq_eq_true hb
    subst this
    exact ⟨cs, rfl, h⟩
section
variable {m : Nat → Nat} {H Hs : Nat → SB D} {mp : List (Nat × Nat)} {x : SV D}
abbrev mM (m : Nat → Nat) (mp : List (Nat × Nat)) (b : Nat) : Nat := m (mpI mp b)
theorem inj_int {k : IntKind} {e e' : E D (.int k)} (h : prjInt k x = some e) (hd : e'.den = e.den) : Les (SV.enc (mM m mp) Hs (.int k e')) (x.enc m H) := by
  unfold prjInt at h
  split at h
  · rename_i k' e0
    split at h
    · rename_i hk
      subst hk
      injection h with h
      subst h
      rw [SV.enc, SV.enc]
      exact .of (congrArg (AV.int k') hd)
    · cases h
  · cases h
theorem inj_bool {e e' : E D .bool} (h : prjBool x = some e) (hd : e'.den = e.den) : Les (SV.enc (mM m mp) Hs (.bool e')) (x.enc m H) := by
  unfold prjBool at h
  split at h
  · injection h with h
    subst h
    rw [SV.enc, SV.enc]
    exact .of (congrArg AV.bool hd)
  · cases h
theorem inj_str {e e' : E D .str} (h : prjStr x = some e) (hd : e'.den = e.den) : Les (SV.enc (mM m mp) Hs (.str e')) (x.enc m H) := by
  unfold prjStr at h
  split at h
  · injection h with h
    subst h
    rw [SV.enc, SV.enc]
    exact .of (congrArg (fun l : List UInt8 => AV.str ⟨⟨l⟩⟩) hd)
  · cases h
theorem inj_ro {fr : Bool} {t : Ty} {e e' : E D (.list t)} (h : prjRo fr t x = some e) (hd : e'.den = e.den) : Les (SV.enc (mM m mp) Hs (.ro fr t e')) (x.enc m H) := by
  unfold prjRo at h
  split at h
  · rename_i fr' t' e0
    cases hc : (!fr || fr') with
    | false => rw [hc] at h; cases h
    | true =>
      rw [hc] at h
      simp only [cond_true] at h
      split at h
      · rename_i ht _
        subst ht
        injection h with h
        subst h
        rw [SV.enc, SV.enc]
        have hd : (e'.den : List t'.den) = e0.den := hd
        rw [hd]
        cases fr <;> cases fr' <;> first | exact .refl _ | (cases hc; done) | exact .unfr _ _
      · cases h
  · injection h with h
    subst h
    rw [SV.enc, SV.enc]
    have hd : (e'.den : List t.den) = [] := hd
    rw [hd]
    exact .nilro fr t.size
  · cases h
theorem inj_pk {fr : Bool} {t : Ty} {o : Nat} {e e' : E D t} (h : prjPk fr t o x = some e) (hd : e'.den = e.den) : Les (SV.enc (mM m mp) Hs (.pk fr t e' o)) (x.enc m H) := by
  unfold prjPk at h
  split at h
  · rename_i fr' t' e0 o'
    cases hc : ((fr == fr') && Nat.beq o o') with
    | false => rw [hc] at h; cases h
    | true =>
      rw [hc] at h
      simp only [cond_true] at h
      rw [Bool.and_eq_true] at hc
      have h1 : fr = fr' := by simpa using hc.1
      have h2 := Nat.eq_of_beq_eq_true hc.2
      subst h1; subst h2
      split at h
      · rename_i ht _
        subst ht
        injection h with h
        subst h
        rw [SV.enc, SV.enc]
        have hd : (e'.den : t'.den) = e0.den := hd
        rw [hd]
        exact .refl _
      · cases h
  · cases h
theorem inj_osl (hc : CutM H Hs mp) {b v : Nat} (h : isOsl H mp b x = true) : Les (SV.enc (mM m mp) Hs (.osl b v)) (x.enc m H) := by
  unfold isOsl at h
  split at h
  · rename_i id ver
    rw [Bool.and_eq_true] at h
    have hid := Nat.eq_of_beq_eq_true h.1
    rw [SV.enc, SV.enc]
    cases hl : rowLen Hs b v with
    | none => exact .any _
    | some n => rw [hc.row b v n id ver hl hid h.2, hid]; exact .refl _
  · cases h
theorem inj_box {b o : Nat} (h : isBoxA H mp b o x = true) : Les (SV.enc (mM m mp) Hs (.box b o)) (x.enc m H) := by
  unfold isBoxA at h
  split at h
  · rename_i id o'
    rw [Bool.and_eq_true, Bool.and_eq_true] at h
    have hid := Nat.eq_of_beq_eq_true h.1.1
    have ho := Nat.eq_of_beq_eq_true h.1.2
    subst ho
    rw [SV.enc, SV.enc]
    cases hl : isBox Hs b with
    | false => exact .any _
    | true => rw [isBoxS_eq, h.2, hid]; exact .refl _
  · cases h
theorem inj_elt (hc : CutM H Hs mp) {b v o : Nat} {k : IntKind} {e e' : E D (.int k)} (h : prjElt H mp b k o x = some e) (hd : e'.den = e.den) : Les (SV.enc (mM m mp) Hs (.elt b v e' o)) (x.enc m H) := by
  unfold prjElt at h
  split at h
  · rename_i id ver k' i o'
    cases hb : (Nat.beq id (mpI mp b) && Nat.beq o o' && isVer (H id) ver) with
    | false => rw [hb] at h; cases h
    | true =>
      rw [hb] at h
      simp only [cond_true] at h
      rw [Bool.and_eq_true, Bool.and_eq_true] at hb
      have hid := Nat.eq_of_beq_eq_true hb.1.1
      have ho := Nat.eq_of_beq_eq_true hb.1.2
      subst ho
      split at h
      · rename_i hk
        subst hk
        injection h with h
        subst h
        rw [SV.enc, SV.enc]
        cases hl : rowLen Hs b v with
        | none => exact .any _
        | some n =>
          rw [hc.row b v n id ver hl hid hb.2, hid]
          have hd : (e'.den : Int) = i.den := hd
          rw [hd]; exact .refl _
      · cases h
  · cases h
end
mutual
theorem injK_les {m : Nat → Nat} {H Hs : Nat → SB D} {mp : List (Nat × Nat)} (hc : CutM H Hs mp) : ∀ (s : SK) (x : SV D) (e e' : E D s.ty), prjK H mp s x = some e → e'.den = e.den → Les ((injK s e').enc (mM m mp) Hs) (x.enc m H)
  | .any, x, e, e', h, hd => by rw [injK, SV.enc]; exact .any _
  | .und, x, e, e', h, hd => by
    rw [prjK] at h
    have := uniIf_some h
    unfold isUnd at this
    split at this
    · rw [injK, SV.enc, SV.enc]; exact .refl _
    · cases this
  | .int k, x, e, e', h, hd => by rw [prjK] at h; rw [injK]; exact inj_int h hd
  | .bool, x, e, e', h, hd => by rw [prjK] at h; rw [injK]; exact inj_bool h hd
  | .str, x, e, e', h, hd => by rw [prjK] at h; rw [injK]; exact inj_str h hd
  | .nilp, x, e, e', h, hd => by
    rw [prjK] at h
    have := uniIf_some h
    unfold isNilp at this
    split at this
    · rw [injK, SV.enc, SV.enc]; exact .refl _
    · cases this
  | .nils, x, e, e', h, hd => by
    rw [prjK] at h
    have := uniIf_some h
    unfold isNils at this
    split at this
    · rw [injK, SV.enc, SV.enc]; exact .refl _
    · cases this
  | .nilf, x, e, e', h, hd => by
    rw [prjK] at h
    have := uniIf_some h
    unfold isNilf at this
    split at this
    · rw [injK, SV.enc, SV.enc]; exact .refl _
    · cases this
  | .ro fr t, x, e, e', h, hd => by rw [prjK] at h; rw [injK]; exact inj_ro h hd
  | .pk fr t o, x, e, e', h, hd => by rw [prjK] at h; rw [injK]; exact inj_pk h hd
  | .osl b v, x, e, e', h, hd => by rw [prjK] at h; rw [injK]; exact inj_osl hc (uniIf_some h)
  | .box b o, x, e, e', h, hd => by rw [prjK] at h; rw [injK]; exact inj_box (uniIf_some h)
  | .elt b v k o, x, e, e', h, hd => by rw [prjK] at h; rw [injK]; exact inj_elt hc h hd
  | .agg l, x, e, e', h, hd => by
    rw [prjK] at h
    obtain ⟨cs, rfl, h2⟩ := inAgg_some h
    rw [injK, SV.enc, SV.enc]
    exact .agg (injL_les hc l _ e e' h2 hd)
  | .tup l, x, e, e', h, hd => by
    rw [prjK] at h
    obtain ⟨cs, rfl, h2⟩ := inTup_some h
    rw [injK, SV.enc, SV.enc]
    exact .tup (injL_les hc l _ e e' h2 hd)
  | .fn f l, x, e, e', h, hd => by
    rw [prjK] at h
    obtain ⟨cs, rfl, h2⟩ := inFn_some h
    rw [injK, SV.enc, SV.enc]
    exact .fn f (injL_les hc l _ e e' h2 hd)
theorem injL_les {m : Nat → Nat} {H Hs : Nat → SB D} {mp : List (Nat × Nat)} (hc : CutM H Hs mp) : ∀ (l : List SK) (cs : List (SV D)) (e e' : E D (SK.tyL l)), prjL H mp l cs = some e → e'.den = e.den → LesL (SV.encL (mM m mp) Hs (injL l e')) (SV.encL m H cs)
  | [], [], e, e', h, hd => by rw [injL, SV.encL, SV.encL]; exact .nil
  | [], _ :: _, e, e', h, hd => by rw [prjL] at h; cases h
  | _ :: _, [], e, e', h, hd => by rw [prjL] at h; cases h
  | s :: l, c :: cs, e, e', h, hd => by
    rw [prjL] at h
    split at h
    · rename_i x y h1 h2
      injection h with h
      subst h
      rw [injL, SV.encL, SV.encL]
      exact .cons (injK_les hc s c x _ h1 (pairC_den _ x y e' hd)) (injL_les hc l cs y _ h2 (sndC_den _ x y e' hd tyL_nil))
    · cases h
end
end Go.Proofs.Ytedjnjgnadbkaaa
/- Decompiling: a cut passed: the state behind it says no more than the one ahead of it. No program in sight. -/
namespace Go.Proofs.Ytedjnjgnadbkaaa
open Go Go.RowKit

/-- the same callers, the same values kept -/
structure Fix (st st' : SSt D) : Prop where
  kp : st'.kp = st.kp
  hk : st'.hk = st.hk
  fr : st'.fr = st.fr
theorem Fix.refl (st : SSt D) : Fix st st := ⟨rfl, rfl, rfl⟩
theorem Fix.trans {a b c : SSt D} (h : Fix a b) (k : Fix b c) : Fix a c := ⟨k.kp.trans h.kp, k.hk.trans h.hk, k.fr.trans h.fr⟩
theorem hasN_of {l : List Nat} {i : Nat} (h : i ∈ l) : hasN l i = true := by
  induction l with
  | nil => cases h
  | cons a l ih =>
    rw [hasN]
    rcases List.mem_cons.1 h with rfl | h
    · rw [Nat.beq_refl]; rfl
    · rw [ih h]; cases Nat.beq a i <;> rfl
theorem disj_at {l m : List Nat} (h : disj l m = true) {a : Nat} (ha : a ∈ l) : a ∉ m := fun hm => by
  have := List.all_eq_true.1 h a ha
  rw [hasN_of hm] at this
  cases this
theorem nodupN_cons {a : Nat} {l : List Nat} (h : nodupN (a :: l) = true) : a ∉ l ∧ nodupN l = true := by
  rw [nodupN, Bool.and_eq_true] at h
  refine ⟨fun hm => ?_, h.2⟩
  rw [hasN_of hm] at h
  exact absurd h.1 (by decide)
theorem look_none {α : Type} {d : α} {l : List (Nat × α)} {i : Nat} (h : i ∉ l.map (·.1)) : look d l i = d := by
  induction l with
  | nil => rfl
  | cons p l ih =>
    obtain ⟨j, v⟩ := p
    rw [look_cons, if_neg (fun e => h (by simp [e])), ih (fun e => h (by simp; right; simpa using e))]
theorem look_rel {α : Type} {d : α} {l : List (Nat × α)} {i : Nat} {R : α → Prop} (hd : R d) (h : ∀ p ∈ l, p.1 = i → R p.2) : R (look d l i) := by
  induction l with
  | nil => exact hd
  | cons p l ih =>
    obtain ⟨j, v⟩ := p
    rw [look_cons]
    split
    · rename_i e; exact h (j, v) (by simp) e
    · exact ih (fun p hp => h p (List.mem_cons_of_mem _ hp))
theorem look_nodup {α : Type} {d : α} {l : List (Nat × α)} (h : nodupN (l.map (·.1)) = true) {p : Nat × α} (hp : p ∈ l) : look d l p.1 = p.2 := by
  induction l with
  | nil => cases hp
  | cons q l ih =>
    obtain ⟨j, v⟩ := q
    have h : nodupN (j :: l.map (·.1)) = true := h
    obtain ⟨h1, h2⟩ := nodupN_cons h
    rw [look_cons]
    rcases List.mem_cons.1 hp with rfl | hp
    · rw [if_pos rfl]
    · rw [if_neg, ih h2 hp]
      intro e
      exact h1 (by rw [e]; exact List.mem_map.2 ⟨p, hp, rfl⟩)
theorem look_encH_rel {m : Nat → Nat} {H : Nat → SB D} {l : List (Nat × SB D)} {k : Nat} {B : AB} (h : ∀ p ∈ l, m p.1 = k → LesB (p.2.enc m H) B) : LesB (look .dead (encH m H l) k) B := by
  refine look_rel (R := fun b => LesB b B) (.dead B) fun p hp e => ?_
  obtain ⟨q, hq, rfl⟩ := List.mem_map.1 hp
  exact h q hq e
section
variable {m : Nat → Nat} {st : SSt D} {Hs : Nat → SB D} {mp : List (Nat × Nat)}
/-- what the items say -/
structure ItmR (m : Nat → Nat) (st : SSt D) (Hs : Nat → SB D) (mp : List (Nat × Nat)) (rl : List (Nat × SV D)) : Prop where
  reg : ∀ p ∈ rl, Les (p.2.enc (mM m mp) Hs) ((st.get p.1).enc m st.blk)
theorem injR_ok (hc : CutM st.blk Hs mp) : ∀ (l : List Itm) (e e' : E D (itmsTy l)), prjIs st mp l = some e → e'.den = e.den → ∀ p ∈ injR l e', Les (p.2.enc (mM m mp) Hs) ((st.get p.1).enc m st.blk)
  | [], _, _, _, _, p, hp => by rw [injR] at hp; cases hp
  | .reg d s :: l, e, e', h, hd, p, hp => by
    rw [prjIs] at h
    split at h
    · rename_i x y h1 h2
      injection h with h
      subst h
      rw [injR] at hp
      rcases List.mem_cons.1 hp with rfl | hp
      · exact injK_les hc s _ x _ h1 (pairC_den _ x y e' hd)
      · exact injR_ok hc l y _ h2 (sndC_den _ x y e' hd itmsTy_nil) p hp
    · cases h
  | .box b ks ty :: l, e, e', h, hd, p, hp => by
    rw [prjIs] at h
    split at h
    · rename_i x y h1 h2
      injection h with h
      subst h
      rw [injR] at hp
      exact injR_ok hc l y _ h2 (sndC_den _ x y e' hd itmsTy_nil) p hp
    · cases h
  | .row b fr t ty v :: l, e, e', h, hd, p, hp => by
    rw [prjIs] at h
    split at h
    · rename_i x y h1 h2
      injection h with h
      subst h
      rw [injR] at hp
      exact injR_ok hc l y _ h2 (sndC_den _ x y e' hd itmsTy_nil) p hp
    · cases h
/-- blocks of the items: live ahead of the cut; rows of one length -/
theorem injH_rows : ∀ (l : List Itm) (e e' : E D (itmsTy l)), prjIs st mp l = some e → e'.den = e.den → ∀ p ∈ injH l e', st.blk (mpI mp p.1) ≠ .dead ∧ (∀ fr t xs ty v, p.2 = .row fr t xs ty v → ∃ fr' xs' v', st.blk (mpI mp p.1) = .row fr' t xs' ty v' ∧ (xs.den : List t.den) = xs'.den ∧ (!fr || fr') = true) ∧ p.1 ∈ itemB l ∧ p.2 ≠ .dead
  | [], _, _, _, _, p, hp => by rw [injH] at hp; cases hp
  | .reg d s :: l, e, e', h, hd, p, hp => by
    rw [prjIs] at h
    split at h
    · rename_i x y h1 h2
      injection h with h
      subst h
      rw [injH] at hp
      obtain ⟨g1, g2, g3, g4⟩ := injH_rows l y _ h2 (sndC_den _ x y e' hd itmsTy_nil) p hp
      exact ⟨g1, g2, by rw [itemB]; exact g3, g4⟩
    · cases h
  | .box b ks ty :: l, e, e', h, hd, p, hp => by
    rw [prjIs] at h
    split at h
    · rename_i x y h1 h2
      injection h with h
      subst h
      rw [injH] at hp
      rcases List.mem_cons.1 hp with rfl | hp
      · refine ⟨?_, fun fr t xs ty v e => (by cases e), by rw [itemB]; simp, by simp⟩
        unfold prjI at h1
        simp only at h1
        split at h1
        · rename_i hb; rw [hb]; simp
        · cases h1
      · obtain ⟨g1, g2, g3, g4⟩ := injH_rows l y _ h2 (sndC_den _ x y e' hd itmsTy_nil) p hp
        exact ⟨g1, g2, by rw [itemB]; exact List.mem_cons_of_mem _ g3, g4⟩
    · cases h
  | .row b fr t ty v :: l, e, e', h, hd, p, hp => by
    rw [prjIs] at h
    split at h
    · rename_i x y h1 h2
      injection h with h
      subst h
      rw [injH] at hp
      rcases List.mem_cons.1 hp with rfl | hp
      · have hx := pairC_den _ x y e' hd
        unfold prjI at h1
        simp only at h1
        split at h1
        · rename_i fr' t' xs' ty' v' hb
          cases hc : (Nat.beq ty ty' && (!fr || fr')) with
          | false => rw [hc] at h1; cases h1
          | true =>
            rw [hc] at h1
            simp only [cond_true] at h1
            rw [Bool.and_eq_true] at hc
            have hty := Nat.eq_of_beq_eq_true hc.1
            subst hty
            split at h1
            · rename_i ht _
              subst ht
              injection h1 with h1
              subst h1
              refine ⟨by rw [hb]; simp, fun fr1 t1 xs1 ty1 v1 e1 => ?_, by rw [itemB]; simp, by simp⟩
              injection e1 with a1 a2 a3 a4 a5
              subst a1; subst a2
              have a3 := eq_of_heq a3
              subst a3; subst a4; subst a5
              exact ⟨fr', xs', v', hb, hx, hc.2⟩
            · cases h1
        · cases h1
      · obtain ⟨g1, g2, g3, g4⟩ := injH_rows l y _ h2 (sndC_den _ x y e' hd itmsTy_nil) p hp
        exact ⟨g1, g2, by rw [itemB]; exact List.mem_cons_of_mem _ g3, g4⟩
    · cases h
theorem injH_boxes (hc : CutM st.blk Hs mp) : ∀ (l : List Itm) (e e' : E D (itmsTy l)), prjIs st mp l = some e → e'.den = e.den → ∀ p ∈ injH l e', LesB (p.2.enc (mM m mp) Hs) ((st.blk (mpI mp p.1)).enc m st.blk)
  | [], _, _, _, _, p, hp => by rw [injH] at hp; cases hp
  | .reg d s :: l, e, e', h, hd, p, hp => by
    rw [prjIs] at h
    split at h
    · rename_i x y h1 h2
      injection h with h
      subst h
      rw [injH] at hp
      exact injH_boxes hc l y _ h2 (sndC_den _ x y e' hd itmsTy_nil) p hp
    · cases h
  | .box b ks ty :: l, e, e', h, hd, p, hp => by
    rw [prjIs] at h
    split at h
    · rename_i x y h1 h2
      injection h with h
      subst h
      rw [injH] at hp
      rcases List.mem_cons.1 hp with rfl | hp
      · have hx := pairC_den _ x y e' hd
        unfold prjI at h1
        simp only at h1
        split at h1
        · rename_i cs ty' hb
          cases hc2 : Nat.beq ty ty' with
          | false => rw [hc2] at h1; cases h1
          | true =>
            rw [hc2] at h1
            have hty := Nat.eq_of_beq_eq_true hc2
            subst hty
            rw [hb, SB.enc, SB.enc]
            exact .box ty (injL_les hc ks cs x _ h1 hx)
        · cases h1
      · exact injH_boxes hc l y _ h2 (sndC_den _ x y e' hd itmsTy_nil) p hp
    · cases h
  | .row b fr t ty v :: l, e, e', h, hd, p, hp => by
    have h0 := h
    rw [prjIs] at h
    split at h
    · rename_i x y h1 h2
      injection h with h
      subst h
      rw [injH] at hp
      rcases List.mem_cons.1 hp with rfl | hp
      · obtain ⟨_, g2, _⟩ := injH_rows _ _ e' h0 hd (b, .row fr t (fstC l.isEmpty e') ty v) (by rw [injH]; simp)
        obtain ⟨fr', xs', v', hb, hxs, hfr⟩ := g2 _ _ _ _ _ rfl
        rw [hb, SB.enc, SB.enc, hxs]
        exact .rows (rows_le hfr t _)
      · exact injH_boxes hc l y _ h2 (sndC_den _ x y e' hd itmsTy_nil) p hp
    · cases h
theorem injH_keys : ∀ (l : List Itm) (e : E D (itmsTy l)), (injH l e).map (·.1) = itemB l
  | [], _ => by rw [injH]; rfl
  | .reg .. :: l, e => by rw [injH, itemB, injH_keys l]
  | .box .. :: l, e => by rw [injH, itemB, List.map_cons, injH_keys l]
  | .row .. :: l, e => by rw [injH, itemB, List.map_cons, injH_keys l]
/-- two injections of the same values have the same boxes and versions -/
theorem injH_same : ∀ (l : List Itm) (e e' : E D (itmsTy l)) (b : Nat) (d : SB D), isBoxS (look d (injH l e) b) = isBoxS (look d (injH l e') b) ∧ ∀ v, isVer (look d (injH l e) b) v = isVer (look d (injH l e') b) v
  | [], _, _, b, d => by rw [injH, injH]; exact ⟨rfl, fun _ => rfl⟩
  | .reg .. :: l, e, e', b, d => by rw [injH, injH]; exact injH_same l _ _ b d
  | .box b' .. :: l, e, e', b, d => by
    rw [injH, injH, look_cons, look_cons]
    split
    · exact ⟨rfl, fun _ => rfl⟩
    · exact injH_same l _ _ b d
  | .row b' .. :: l, e, e', b, d => by
    rw [injH, injH, look_cons, look_cons]
    split
    · exact ⟨rfl, fun _ => rfl⟩
    · exact injH_same l _ _ b d
theorem nodupN_append {l r : List Nat} (h : nodupN (l ++ r) = true) : nodupN l = true ∧ nodupN r = true ∧ ∀ a ∈ l, a ∉ r := by
  induction l with
  | nil => exact ⟨rfl, h, fun a ha => by cases ha⟩
  | cons a l ih =>
    obtain ⟨h1, h2⟩ := nodupN_cons (a := a) (l := l ++ r) h
    obtain ⟨g1, g2, g3⟩ := ih h2
    refine ⟨?_, g2, fun b hb => ?_⟩
    · rw [nodupN, g1, Bool.and_true]
      cases hh : hasN l a with
      | true => exact absurd (List.mem_append_left r (hasN_mem hh)) h1
      | false => rfl
    · rcases List.mem_cons.1 hb with rfl | hb
      · exact fun e => h1 (List.mem_append_right l e)
      · exact g3 b hb
theorem nodupN_map {f : Nat → Nat} {l : List Nat} (h : nodupN (l.map f) = true) : ∀ a ∈ l, ∀ b ∈ l, f a = f b → a = b := by
  induction l with
  | nil => intro a ha; cases ha
  | cons c l ih =>
    have h : nodupN (f c :: l.map f) = true := h
    obtain ⟨h1, h2⟩ := nodupN_cons h
    intro a ha b hb e
    rcases List.mem_cons.1 ha with ha1 | ha1
    · rcases List.mem_cons.1 hb with hb1 | hb1
      · rw [ha1, hb1]
      · exact absurd (List.mem_map.2 ⟨b, hb1, by rw [← e, ha1]⟩) h1
    · rcases List.mem_cons.1 hb with hb1 | hb1
      · exact absurd (List.mem_map.2 ⟨a, ha1, by rw [e, hb1]⟩) h1
      · exact ih h2 a ha1 b hb1 e
theorem lk_keys {mp : List (Nat × Nat)} {b : Nat} (h : b ∉ mp.map (·.1)) : mpI mp b = b := by
  unfold mpI
  have : lk mp b = none := by
    induction mp with
    | nil => rfl
    | cons p l ih =>
      obtain ⟨j, v⟩ := p
      rw [lk]
      have hne : Nat.beq j b = false := by
        rw [← Bool.not_eq_true]; intro e; exact h (by simp [Nat.eq_of_beq_eq_true e])
      rw [hne]
      exact ih (fun e => h (by simp; right; simpa using e))
  rw [this]
theorem isVer_row {b : SB D} {v : Nat} (h : isVer b v = true) : ∃ fr t xs e, b = .row fr t xs e v := by
  cases b with
  | row fr t xs e v' => exact ⟨fr, t, xs, e, by rw [Nat.eq_of_beq_eq_true h]⟩
  | _ => cases h
theorem rowLen_some {H : Nat → SB D} {id v n : Nat} (h : rowLen H id v = some n) : isVer (H id) v = true ∧ ∃ fr t xs e, H id = .row fr t xs e v ∧ n = List.length xs.den := by
  unfold rowLen at h
  split at h
  · rename_i fr t xs e v' hb
    cases hv : Nat.beq v v' with
    | false => rw [hv] at h; cases h
    | true =>
      rw [hv] at h
      injection h with h
      have e1 := Nat.eq_of_beq_eq_true hv
      subst e1
      exact ⟨by rw [hb]; exact hv, fr, t, xs, e, hb, h.symm⟩
  · cases h
theorem rowLen_ver {H : Nat → SB D} {id v : Nat} (h : isVer (H id) v = false) : rowLen H id v = none := by
  unfold rowLen
  split
  · rename_i fr t xs e v' hb
    rw [hb] at h
    have h : Nat.beq v v' = false := h
    rw [h]; rfl
  · rfl
/-- a cut passed -/
theorem cut_ok {F : List (Nat → AV)} {base st : SSt D} {sg : Sig} {mp : List (Nat × Nat)} {s : ASt} {e e' : E D (itmsTy sg.items)} (ha : arr base sg mp st = some e) (hd : e'.den = e.den) (hfix : Fix (lay base sg) st) (hst : StL F st s) : StL F (inj base sg e') s := by
  unfold arr at ha
  split at ha
  · cases ha
  · rename_i e0 hp
    cases hc : cutOk base sg mp st (inj base sg e0).blk with
    | false => rw [hc] at ha; cases ha
    | true =>
      rw [hc] at ha
      injection ha with ha
      subst ha
      unfold cutOk at hc
      simp only [Bool.and_eq_true] at hc
      obtain ⟨c1, c2, c3, c4, c5, c6, c7, c8, c9, c10, c11⟩ := hc
      obtain ⟨m, nx, hm, hl, hf⟩ := hst
      have hkp : st.kp = keepR base sg.keep ++ base.kp := hfix.kp
      have hhk : st.hk = keepH base sg.keepB ++ base.hk := hfix.hk
      have hfr : st.fr = base.fr := hfix.fr
      generalize hK : keepR base sg.keep ++ base.kp = KP at *
      generalize hH : keepH base sg.keepB ++ base.hk = HK at *
      have hblk : ∀ (e1 : E D (itmsTy sg.items)) b, (inj base sg e1).blk b = look (look .dead HK b) (injH sg.items e1) b := by
        intro e1 b
        show look (look .dead (keepH base sg.keepB ++ base.hk) b) _ _ = _
        rw [hH]; rfl
      obtain ⟨n1, n2, n3⟩ := nodupN_append c4
      obtain ⟨m1, _, m3⟩ := nodupN_append c5
      have hmpk : ∀ b, b ∉ itemB sg.items → mpI mp b = b := by
        intro b hb
        refine lk_keys fun hk => hb ?_
        obtain ⟨p, hp1, e1⟩ := List.mem_map.1 hk
        rw [← e1]
        exact hasN_mem (List.all_eq_true.1 c7 p hp1)
      have hHKst : ∀ p ∈ HK, st.blk p.1 = p.2 := by
        intro p hp1
        have hno : p.1 ∉ st.heap.map (·.1) := fun hh => disj_at c2 hh (List.mem_map.2 ⟨p, hp1, rfl⟩)
        show look (look .dead st.hk p.1) st.heap p.1 = _
        rw [look_none hno, hhk]
        exact look_nodup n2 hp1
      have hHKlive : ∀ p ∈ HK, p.2 ≠ .dead := fun p hp1 => (hm.keys p (List.mem_append_right _ (by rw [hhk]; exact hp1))).2
      -- blocks behind the cut
      have hIn : ∀ (e1 : E D (itmsTy sg.items)) b, b ∉ itemB sg.items → (inj base sg e1).blk b = look .dead HK b := by
        intro e1 b hb
        rw [hblk, look_none]
        rw [injH_keys]; exact hb
      have hcase : ∀ b, (inj base sg e').blk b ≠ .dead → (b ∈ itemB sg.items ∧ (b, (inj base sg e').blk b) ∈ injH sg.items e') ∨ (b ∉ itemB sg.items ∧ mpI mp b = b ∧ (b, (inj base sg e').blk b) ∈ HK ∧ st.blk b = (inj base sg e').blk b) := by
        intro b hb
        by_cases hbi : b ∈ itemB sg.items
        · refine .inl ⟨hbi, ?_⟩
          have hbm : b ∈ (injH sg.items e').map (·.1) := by rw [injH_keys]; exact hbi
          obtain ⟨q, hq, e1⟩ := List.mem_map.1 hbm
          have : (inj base sg e').blk b = q.2 := by
            rw [hblk, ← e1]
            exact look_nodup (by rw [injH_keys]; exact n1) hq
          rw [this, ← e1]; exact hq
        · refine .inr ⟨hbi, hmpk b hbi, ?_⟩
          rw [hIn e' b hbi] at hb ⊢
          have := look_mem (rfl : look SB.dead HK b = _) hb
          exact ⟨this, hHKst _ this⟩
      have hIR := injH_rows sg.items e0 e' hp hd
      have hcut : CutM st.blk (inj base sg e').blk mp := by
        refine ⟨fun b v n id ver hrl hid hver => ?_⟩
        obtain ⟨_, fr, t, xs, ty, hb, hn⟩ := rowLen_some hrl
        subst hid
        rcases hcase b (by rw [hb]; simp) with ⟨_, g⟩ | ⟨_, g1, g2, g3⟩
        · rw [hb] at g
          obtain ⟨_, g2, _⟩ := hIR _ g
          obtain ⟨fr', xs', v', h1, h2, _⟩ := g2 _ _ _ _ _ rfl
          unfold rowLen
          have hver' := hver
          rw [h1] at hver'
          have hver' : Nat.beq ver v' = true := hver'
          rw [h1]
          simp only [hver', cond_true]
          rw [hn, h2]
        · rw [g1] at hver ⊢
          have g3' := g3
          rw [hb] at g3
          rw [g3] at hver
          have hver' : Nat.beq ver v = true := hver
          unfold rowLen
          rw [g3]
          simp only [hver', cond_true]
          rw [hn]
      have hle : MemLe m st.blk (mM m mp) (inj base sg e').blk (cutB (inj base sg e0).blk mp st.blk) (cutR (inj base sg e0).blk mp st.blk) := by
        have same : ∀ b, isBoxS ((inj base sg e').blk b) = isBoxS ((inj base sg e0).blk b) ∧ ∀ v, isVer ((inj base sg e').blk b) v = isVer ((inj base sg e0).blk b) v := by
          intro b
          rw [hblk, hblk]
          exact injH_same _ _ _ _ _
        refine ⟨fun id h => ?_, fun id v h => ?_⟩
        · unfold cutB at h
          cases h1 : isBoxS ((inj base sg e0).blk id) with
          | false => exact .inl (by rw [isBoxS_eq, (same id).1, h1])
          | true =>
            rw [h1] at h
            have h : (Nat.beq (mpI mp id) id && isBoxS (st.blk id)) = true := h
            rw [Bool.and_eq_true] at h
            have hid := Nat.eq_of_beq_eq_true h.1
            exact .inr ⟨by rw [isBoxS_eq, (same id).1, h1, isBoxS_eq, h.2], by show m (mpI mp id) = m id; rw [hid]⟩
        · unfold cutR at h
          cases h1 : isVer ((inj base sg e0).blk id) v with
          | false => exact .inl (rowLen_ver (by rw [(same id).2, h1]))
          | true =>
            rw [h1] at h
            have h : (Nat.beq (mpI mp id) id && isVer (st.blk id) v) = true := h
            rw [Bool.and_eq_true] at h
            have hid := Nat.eq_of_beq_eq_true h.1
            refine .inr ⟨?_, by show m (mpI mp id) = m id; rw [hid]⟩
            have h1' : isVer ((inj base sg e').blk id) v = true := by rw [(same id).2, h1]
            obtain ⟨fr, t, xs, ty, hb⟩ := isVer_row h1'
            have hrl : rowLen (inj base sg e').blk id v = some (List.length xs.den) := rowLen_eq hb (by rw [hb] at h1'; exact h1')
            rw [hrl]
            exact (hcut.row id v _ id v hrl hid.symm h.2).symm
      have hlive : ∀ b, (inj base sg e').blk b ≠ .dead → st.blk (mpI mp b) ≠ .dead := by
        intro b hb
        rcases hcase b hb with ⟨_, g⟩ | ⟨_, g1, g2, g3⟩
        · exact (hIR _ g).1
        · rw [g1, g3]; exact hb
      refine ⟨mM m mp, nx, ⟨fun b hb => hm.lt _ (hlive b hb), fun b b' hb hb' e1 => ?_, fun p hp1 => ?_⟩, hl.trans (LeS.rle ⟨fun d => ?_, fun k => ?_, rfl⟩), ?_⟩
      · have e2 : mpI mp b = mpI mp b' := hm.inj _ _ (hlive b hb) (hlive b' hb') e1
        rcases hcase b hb with ⟨g0, _⟩ | ⟨_, g1, g2, _⟩
        · rcases hcase b' hb' with ⟨k0, _⟩ | ⟨_, k1, k2, _⟩
          · exact nodupN_map m1 b g0 b' k0 e2
          · refine absurd ?_ (m3 (mpI mp b) (List.mem_map.2 ⟨b, g0, rfl⟩))
            rw [e2, k1]; exact List.mem_map.2 ⟨_, k2, rfl⟩
        · rcases hcase b' hb' with ⟨k0, _⟩ | ⟨_, k1, k2, _⟩
          · refine absurd ?_ (m3 (mpI mp b') (List.mem_map.2 ⟨b', k0, rfl⟩))
            rw [← e2, g1]; exact List.mem_map.2 ⟨_, g2, rfl⟩
          · rw [g1, k1] at e2; exact e2
      · have hp1 : p ∈ injH sg.items e' ++ (keepH base sg.keepB ++ base.hk) := hp1
        rw [hH] at hp1
        rcases List.mem_append.1 hp1 with hp1 | hp1
        · obtain ⟨_, _, g3, g4⟩ := hIR p hp1
          exact ⟨Nat.le_of_ble_eq_true (List.all_eq_true.1 c6 _ g3), g4⟩
        · have : p.1 < base.nx := Nat.le_of_ble_eq_true (List.all_eq_true.1 c11 _ hp1)
          exact ⟨Nat.lt_of_lt_of_le this (Nat.le_add_right _ _), hHKlive p hp1⟩
      · rw [enc_get, enc_get]
        show Les ((look (look .any (keepR base sg.keep ++ base.kp) d) (statR sg.stat ++ injR sg.items e') d).enc _ _) _
        rw [hK]
        refine look_rel (R := fun x => Les (SV.enc (mM m mp) (inj base sg e').blk x) ((st.get d).enc m st.blk)) ?_ (fun p hp1 e1 => ?_)
        · by_cases hdk : d ∈ KP.map (·.1)
          · have hno : d ∉ st.regs.map (·.1) := fun hh => disj_at c1 hh hdk
            have : st.get d = look .any KP d := by
              show look (look .any st.kp d) st.regs d = _
              rw [look_none hno, hkp]
            rw [this]
            exact enc_les hle _ (refsR_look c8 d)
          · rw [look_none hdk, SV.enc]; exact .any _
        · rw [← e1]
          rcases List.mem_append.1 hp1 with hp1 | hp1
          · obtain ⟨q, hq, rfl⟩ := List.mem_map.1 hp1
            have h3 := List.all_eq_true.1 c3 q hq
            rw [Bool.and_eq_true] at h3
            obtain ⟨x, hx⟩ := Option.isSome_iff_exists.1 h3.2
            show Les (SV.enc (mM m mp) _ (injS q.2)) _
            unfold injS
            split
            · rename_i ht _
              refine injK_les hcut q.2 _ x _ hx ?_
              exact den_uni ht.symm _ _
            · rw [SV.enc]; exact .any _
          · exact injR_ok hcut sg.items e0 e' hp hd p hp1
      · show LesB (look .dead (encH (mM m mp) (inj base sg e').blk (injH sg.items e' ++ (keepH base sg.keepB ++ base.hk))) k) _
        rw [hH]
        refine look_encH_rel fun p hp1 e1 => ?_
        rw [← e1]
        rcases List.mem_append.1 hp1 with hp1 | hp1
        · show LesB _ (look .dead (st.enc m nx).heap (m (mpI mp p.1)))
          rw [enc_blk hm (hIR p hp1).1]
          exact injH_boxes hcut sg.items e0 e' hp hd p hp1
        · have hpi : p.1 ∉ itemB sg.items := fun hh => n3 _ hh (List.mem_map.2 ⟨p, hp1, rfl⟩)
          show LesB _ (look .dead (st.enc m nx).heap (m (mpI mp p.1)))
          have hsb := hHKst p hp1
          rw [hmpk _ hpi, enc_blk hm (by rw [hsb]; exact hHKlive p hp1), hsb]
          refine encB_les hle _ ?_
          have : ∀ (l : List (Nat × SB D)), refsH (cutB (inj base sg e0).blk mp st.blk) (cutR (inj base sg e0).blk mp st.blk) l = true → ∀ q ∈ l, q.2.refs (cutB (inj base sg e0).blk mp st.blk) (cutR (inj base sg e0).blk mp st.blk) = true := by
            intro l
            induction l with
            | nil => intro _ q hq; cases hq
            | cons a l ih =>
              intro h q hq
              rw [refsH, Bool.and_eq_true] at h
              rcases List.mem_cons.1 hq with rfl | hq
              · exact h.1
              · exact ih h.2 q hq
          exact this HK c9 p hp1
      · show FrOk (mM m mp) (inj base sg e').blk base.fr F
        rw [hfr] at hf
        exact hf.les' hle c10
end
/-! ### What is kept, laid aside and back -/
section
variable {F : List (Nat → AV)} {st st' : SSt D} {s : ASt} {m : Nat → Nat} {nx : Nat}
theorem heap_cases (hm : MOk m nx st) (k : Nat) : look .dead (st.enc m nx).heap k = .dead ∨ ∃ b, st.blk b ≠ .dead ∧ k = m b := by
  by_cases h : look .dead (st.enc m nx).heap k = .dead
  · exact .inl h
  · refine .inr ?_
    have := look_mem (rfl : look AB.dead (st.enc m nx).heap k = _) h
    obtain ⟨p, hp, e⟩ := List.mem_map.1 this
    injection e with e1 _
    exact ⟨p.1, hm.key_live hp, e1.symm⟩
theorem same_les (hm : MOk m nx st) (hm' : MOk m nx st') (hg : ∀ d, st'.get d = st.get d) (hb : st'.blk = st.blk) : LeS (st'.enc m nx) (st.enc m nx) := by
  refine ⟨fun d => ?_, fun k => ?_, rfl⟩
  · rw [enc_get, enc_get, hg, hb]; exact .refl _
  · rcases heap_cases hm' k with h | ⟨b, h, e⟩
    · rw [h]; exact .dead _
    · subst e
      rw [enc_blk hm' h, enc_blk hm (by rw [← hb]; exact h), hb]; exact .refl _
theorem StL.same (h : StL F st s) (hg : ∀ d, st'.get d = st.get d) (hb : st'.blk = st.blk) (hk : ∀ p ∈ st'.heap ++ st'.hk, p ∈ st.heap ++ st.hk ∨ (p.2 = st.blk p.1 ∧ p.2 ≠ .dead)) (hn : st'.nx = st.nx) (hf : st'.fr = st.fr) : StL F st' s := by
  obtain ⟨m, nx, hm, hl, hfr⟩ := h
  have hm' : MOk m nx st' := ⟨fun k hk => hm.lt k (by rw [← hb]; exact hk), fun k k' h1 h2 e => hm.inj k k' (by rw [← hb]; exact h1) (by rw [← hb]; exact h2) e, fun p hp => by
    rw [hn]
    rcases hk p hp with h | ⟨h1, h2⟩
    · exact hm.keys p h
    · exact ⟨hm.live (by rw [← h1]; exact h2), h2⟩⟩
  exact ⟨m, nx, hm', hl.trans (same_les hm hm' hg hb).rle, by rw [hb, hf]; exact hfr⟩
end
section
variable {V : Ty → Type}
def isLive (b : SB V) : Bool := match b with
  | .dead => false
  | _ => true
def layOk (st : SSt V) (sg : Sig) : Bool := sg.keepB.all fun b => isLive (st.blk b)
end
section
variable {F : List (Nat → AV)} {base st : SSt D} {s : ASt} {sg : Sig}
theorem look_keepR (l : List Nat) (x : SV D) (d : Nat) : look x (keepR base l) d = bif hasN l d then base.get d else x := by
  induction l with
  | nil => rfl
  | cons a l ih =>
    show look x ((a, base.get a) :: keepR base l) d = _
    rw [look_cons, ih, hasN]
    by_cases e : a = d
    · subst e; rw [if_pos rfl, Nat.beq_refl]; rfl
    · rw [if_neg e]
      have : Nat.beq a d = false := by rw [← Bool.not_eq_true]; intro h; exact e (Nat.eq_of_beq_eq_true h)
      rw [this]; rfl
theorem look_keepH (l : List Nat) (x : SB D) (d : Nat) : look x (keepH base l) d = bif hasN l d then base.blk d else x := by
  induction l with
  | nil => rfl
  | cons a l ih =>
    show look x ((a, base.blk a) :: keepH base l) d = _
    rw [look_cons, ih, hasN]
    by_cases e : a = d
    · subst e; rw [if_pos rfl, Nat.beq_refl]; rfl
    · rw [if_neg e]
      have : Nat.beq a d = false := by rw [← Bool.not_eq_true]; intro h; exact e (Nat.eq_of_beq_eq_true h)
      rw [this]; rfl
theorem lay_get (d : Nat) : (lay base sg).get d = base.get d := by
  show look (look .any (keepR base sg.keep ++ base.kp) d) (base.regs.filter fun p => !hasN sg.keep p.1) d = _
  rw [look_filt (f := fun d => !hasN sg.keep d), look_append, look_keepR]
  cases hasN sg.keep d <;> rfl
theorem lay_blk : (lay base sg).blk = base.blk := by
  funext d
  show look (look .dead (keepH base sg.keepB ++ base.hk) d) (base.heap.filter fun p => !hasN sg.keepB p.1) d = _
  rw [look_filt (f := fun d => !hasN sg.keepB d), look_append, look_keepH]
  cases hasN sg.keepB d <;> rfl
theorem lay_ok (h : StL F base s) (hk : layOk base sg = true) : StL F (lay base sg) s := by
  refine h.same lay_get lay_blk (fun p hp => ?_) rfl rfl
  rcases List.mem_append.1 hp with hp | hp
  · exact .inl (List.mem_append_left _ (List.mem_filter.1 hp).1)
  · rcases List.mem_append.1 hp with hp | hp
    · obtain ⟨b, hb, rfl⟩ := List.mem_map.1 hp
      refine .inr ⟨rfl, ?_⟩
      have := List.all_eq_true.1 hk b hb
      intro e
      have e : base.blk b = .dead := e
      rw [e] at this; cases this
    · exact .inl (List.mem_append_right _ hp)
theorem unlay_ok (hfix : Fix (lay base sg) st) (h : StL F st s) : StL F (unlay base st sg) s ∧ Fix base (unlay base st sg) := by
  have hkp : st.kp = keepR base sg.keep ++ base.kp := hfix.kp
  have hhk : st.hk = keepH base sg.keepB ++ base.hk := hfix.hk
  have hfr : st.fr = base.fr := hfix.fr
  refine ⟨h.same (fun d => ?_) ?_ (fun p hp => .inl ?_) rfl hfr.symm, ⟨rfl, rfl, rfl⟩⟩
  · show look (look .any base.kp d) (st.regs ++ keepR base sg.keep) d = look (look .any st.kp d) st.regs d
    rw [look_append, hkp, look_append]
  · funext d
    show look (look .dead base.hk d) (st.heap ++ keepH base sg.keepB) d = look (look .dead st.hk d) st.heap d
    rw [look_append, hhk, look_append]
  · rw [hhk]
    have hp : p ∈ (st.heap ++ keepH base sg.keepB) ++ base.hk := hp
    rw [List.append_assoc] at hp
    exact hp
theorem inj_fix {e : E D (itmsTy sg.items)} {st' : SSt D} (h : Fix (inj base sg e) st') : Fix (lay base sg) st' := ⟨h.kp, h.hk, h.fr⟩
end
end Go.Proofs.Ytedjnjgnadbkaaa
/- Decompiling: a row of the call's own becomes data that is only read. No program in sight. -/
namespace Go.Proofs.Ytedjnjgnadbkaaa
open Go Go.RowKit

/-- no slices inside -/
def Ty.noL : Ty → Bool
  | .list _ => false
  | .ptr _ => false
  | .pair a b => a.noL && b.noL
  | .agg t => t.noL
  | _ => true
theorem Ty.cells_noL (fr fr' : Bool) : ∀ (t : Ty) (x : t.den), t.noL = true → t.cells fr x = t.cells fr' x
  | .int _, _, _ => rfl
  | .bool, _, _ => rfl
  | .str, _, _ => rfl
  | .unit, _, _ => rfl
  | .list _, _, h => by cases h
  | .ptr _, _, h => by cases h
  | .pair a b, x, h => by
    rw [Ty.noL, Bool.and_eq_true] at h
    rw [Ty.cells, Ty.cells, Ty.cells_noL fr fr' a x.1 h.1, Ty.cells_noL fr fr' b x.2 h.2]
  | .agg t, x, h => by
    rw [Ty.cells, Ty.cells]
    exact Ty.cells_noL fr fr' t x h
theorem rows_noL (fr fr' : Bool) (t : Ty) (xs : List t.den) (h : t.noL = true) : xs.map (t.cells fr) = xs.map (t.cells fr') := List.map_congr_left fun x _ => Ty.cells_noL fr fr' t x h
theorem rows_fl (fr : Bool) (t : Ty) (xs : List t.den) : xs.map (t.cells (fr || t.noL)) = xs.map (t.cells fr) := by
  cases h : t.noL with
  | true => exact rows_noL _ _ t xs h
  | false => rw [Bool.or_false]
/-- the memory of the call's own without one block -/
def Gh.fz (G : Gh) (id : Nat) : Gh := ⟨fun i => if i = id then .slice Option.none 0 0 else G.ρ i, fun b => G.own b ∧ ownBlk (G.ρ id) ≠ some b, fun i => if i = id then G.ln i + 1 else G.ln i, G.sz, G.nx, G.bs⟩
section
variable {w0 w : World} {G : Gh} {hp : List (Nat × AB)} {id : Nat}
theorem fz_ρ {i : Nat} (h : i ≠ id) : (G.fz id).ρ i = G.ρ i := if_neg h
theorem fz_ln {i : Nat} (h : i ≠ id) : (G.fz id).ln i = G.ln i := if_neg h
theorem Ext.fz (hs : 0 < G.sz id) : Ext w G w (G.fz id) := ⟨Nat.le_refl _, fun _ _ _ => rfl, fun b h => .inl h.1, Nat.le_refl _, rfl, fun i hi => by
  by_cases e : i = id
  · subst e
    have e1 : (G.fz i).ln i = G.ln i + 1 := if_pos rfl
    exact ⟨by omega, rfl, fun h => by omega, fun h => by omega⟩
  · rw [fz_ρ e, fz_ln e]
    exact ⟨Nat.le_refl _, rfl, fun _ => rfl, fun _ => rfl⟩⟩
theorem row_frozen {n sz : Nat} {rows : List (List AV)} {e : TypeId} {fr : Bool} {v : Value} (hHR : HR w0 w G hp) (h : look .dead hp id = .row sz rows e) (hn : n = rows.length) (hv : RelV w G (.osl id n) v) (hd : ∀ row ∈ rows, ∀ a ∈ row, isD a = true) : RelV w (G.fz id) (.ro fr sz rows) v := by
  have hk := hHR.blk id
  rw [h] at hk
  obtain ⟨q1, q2, q3, q4, flat, q5, q6, q7⟩ := hk
  have hs : 0 < G.sz id := by rw [q3]; exact q2
  have ev : v = G.ρ id := by
    cases hv with
    | dat h => cases h
    | osl _ _ _ _ _ _ _ hh => exact hh (by rw [q4, hn])
  subst ev
  rcases q5.2 with ⟨e1, e2⟩ | ⟨gg, cap, cur, e1, hbs, hh, hcap, hcm, _, _⟩
  · rw [e1]
    have hr0 : rows = [] := List.eq_nil_of_length_eq_zero (by omega)
    subst hr0
    exact .dat (.ro fr sz [] none 0 (fun _ _ => undef) (Nat.le_refl _) (by simp [maxLen]) (fun i hi => by simp at hi) (fun i row j a g => by simp at g) (fun i row j a g => by simp at g))
  · have hog : G.own gg := hHR.ownhas id gg q1 (by rw [e1]; rfl)
    have q5' := q5
    rw [e1] at q5'
    have e0 := e1
    rw [e1]
    have key : ∀ (i : Nat) (row : List AV) (j : Nat) (a : AV), rows[i]? = some row → row[j]? = some a → ∃ u, flat[i * sz + j]? = some u ∧ w.cell? ⟨gg, i * sz + j, none⟩ = some u ∧ RelD w (G.fz id).own (G.fz id).bs a u := by
      intro i row j a g1 g2
      obtain ⟨u, g6, g7⟩ := (q7 i row g1).2 j a g2
      refine ⟨u, g6, ?_, (g7.isD (hd row (List.mem_of_getElem? g1) a (List.mem_of_getElem? g2))).ext (Ext.fz (w := w) hs)⟩
      rw [q5'.cellAt _ (by have := (List.getElem?_eq_some_iff.1 g6).1; rw [q5.1] at this; exact this), g6]
    refine .dat (.ro fr sz rows (some ⟨gg, 0, none⟩) cap (fun i j => flat.getD (i * sz + j) undef) (by omega) hcm (fun _ _ => by simp) (fun i row j a g1 g2 => ?_) (fun i row j a g1 g2 => ?_))
    · obtain ⟨u, g3, g4, _⟩ := key i row j a g1 g2
      refine ⟨gg, 0, rfl, fun ho => ho.2 (by rw [e0]; rfl), fun _ => ?_, ?_⟩
      · show G.bs ≤ gg
        rw [hHR.bs]; exact hbs
      · rw [Nat.zero_add, g4, List.getD_eq_getElem?_getD, g3]; rfl
    · obtain ⟨u, g3, _, g5⟩ := key i row j a g1 g2
      rw [List.getD_eq_getElem?_getD, g3]; exact g5
/-- a part of a row of the call's own, once the row is data -/
theorem view_frozen {n lo len sz : Nat} {rows : List (List AV)} {e : TypeId} {fr : Bool} {v : Value} (hHR : HR w0 w G hp) (h : look .dead hp id = .row sz rows e) (hn : n = rows.length) (hv : RelV w G (.vsl id n lo len) v) (hd : ∀ row ∈ rows, ∀ a ∈ row, isD a = true) : RelV w (G.fz id) (.ro fr sz ((rows.drop lo).take len)) v := by
  have hk := hHR.blk id
  rw [h] at hk
  obtain ⟨q1, q2, q3, q4, flat, q5, q6, q7⟩ := hk
  have hs : 0 < G.sz id := by rw [q3]; exact q2
  cases hv with
  | dat h => cases h
  | vsl _ _ _ _ _ p1 p2 p3 hle p4 p5 =>
    obtain ⟨A, c, rfl, hc, hcm, hA⟩ := p5 (by rw [q4, hn])
    have hlen : ((rows.drop lo).take len).length = len := by rw [List.length_take, List.length_drop]; omega
    have key : ∀ (i : Nat) (row : List AV) (j : Nat) (a : AV), ((rows.drop lo).take len)[i]? = some row → row[j]? = some a → ∃ g, A = some ⟨g, lo * sz, none⟩ ∧ ¬ (G.fz id).own g ∧ G.bs ≤ g ∧ w.cell? ⟨g, (lo + i) * sz + j, none⟩ = some (flat.getD ((lo + i) * sz + j) undef) ∧ RelD w (G.fz id).own (G.fz id).bs a (flat.getD ((lo + i) * sz + j) undef) := by
      intro i row j a g1 g2
      have hil : i < len := by rw [← hlen]; exact (List.getElem?_eq_some_iff.1 g1).1
      obtain ⟨g, c', e1, e2⟩ := hA (by omega)
      rw [List.getElem?_take_of_lt hil, List.getElem?_drop] at g1
      obtain ⟨u, g6, g7⟩ := (q7 _ row g1).2 j a g2
      have hbs : w0.heap.size ≤ g := by
        rcases q5.2 with ⟨e3, e4⟩ | ⟨gg, cap, cur, e3, hbs, _⟩
        · rw [e1] at e3; cases e3
        · rw [e1] at e3; injection e3 with e3; injection e3 with e3; injection e3 with e3; rw [e3]; exact hbs
      have q5' := q5
      rw [e1, hn] at q5'
      refine ⟨g, by rw [e2, q3], fun ho => ho.2 (by rw [e1]; rfl), by rw [hHR.bs]; exact hbs, ?_, ?_⟩
      · rw [q5'.cellAt _ (by have := (List.getElem?_eq_some_iff.1 g6).1; rw [q5.1] at this; exact this), List.getD_eq_getElem?_getD, g6]; rfl
      · rw [List.getD_eq_getElem?_getD, g6]
        exact (g7.isD (hd row (List.mem_of_getElem? g1) a (List.mem_of_getElem? g2))).ext (Ext.fz (w := w) hs)
    have fin := RelD.ro (w := w) (own := (G.fz id).own) (bs := (G.fz id).bs) fr sz ((rows.drop lo).take len) A c (fun i j => flat.getD ((lo + i) * sz + j) undef) (by rw [hlen]; exact hc) hcm (fun i hi => by
        rw [hlen] at hi
        obtain ⟨g, c', e1, e2⟩ := hA (by omega)
        rw [e2]; simp) (fun i row j a g1 g2 => by
        obtain ⟨g, e1, e2, e3, e4, _⟩ := key i row j a g1 g2
        refine ⟨g, lo * sz, e1, e2, fun _ => e3, ?_⟩
        rw [show lo * sz + i * sz + j = (lo + i) * sz + j by rw [Nat.add_mul]]
        exact e4) (fun i row j a g1 g2 => (by
        obtain ⟨g, _, _, _, _, e5⟩ := key i row j a g1 g2
        exact e5))
    rw [hlen] at fin
    exact .dat fin
end
section
variable {V : Ty → Type}
mutual
def SV.fz (id ver : Nat) (fr : Bool) (t : Ty) (xs : E V (.list t)) : SV V → SV V
  | .osl i v => bif Nat.beq i id && Nat.beq v ver then .ro fr t xs else .osl i v
  | .vsl i v lo hi => bif Nat.beq i id && Nat.beq v ver then .ro fr t (.sub xs lo hi) else .vsl i v lo hi
  | .agg cs => .agg (SV.fzL id ver fr t xs cs)
  | .tup cs => .tup (SV.fzL id ver fr t xs cs)
  | .fn f cs => .fn f (SV.fzL id ver fr t xs cs)
  | x => x
def SV.fzL (id ver : Nat) (fr : Bool) (t : Ty) (xs : E V (.list t)) : List (SV V) → List (SV V)
  | [] => []
  | c :: l => SV.fz id ver fr t xs c :: SV.fzL id ver fr t xs l
end
def SB.fz (id ver : Nat) (fr : Bool) (t : Ty) (xs : E V (.list t)) : SB V → SB V
  | .box cs e => .box (SV.fzL id ver fr t xs cs) e
  | b => b
def SSt.frz (st : SSt V) (id : Nat) : SSt V := match st.blk id with
  | .row fr t xs _ ver => bif hasN (st.hk.map (·.1)) id then st else
      ⟨st.regs.map (fun p => (p.1, p.2.fz id ver (fr || t.noL) t xs)), st.kp, (st.heap.filter fun p => !Nat.beq p.1 id).map (fun p => (p.1, p.2.fz id ver (fr || t.noL) t xs)), st.hk, st.fr, st.nx⟩
  | _ => st
def SSt.frzL (st : SSt V) : List Nat → SSt V
  | [] => st
  | id :: l => SSt.frzL (st.frz id) l
end
mutual
theorem sv_all : ∀ (x : SV D), x.refs (fun _ => true) (fun _ _ => true) = true
  | .any => by rw [SV.refs]; all_goals simp
  | .und => by rw [SV.refs]; all_goals simp
  | .int .. => by rw [SV.refs]; all_goals simp
  | .bool .. => by rw [SV.refs]; all_goals simp
  | .str .. => by rw [SV.refs]; all_goals simp
  | .nilp => by rw [SV.refs]; all_goals simp
  | .nils => by rw [SV.refs]; all_goals simp
  | .nilf => by rw [SV.refs]; all_goals simp
  | .pk .. => by rw [SV.refs]; all_goals simp
  | .ro .. => by rw [SV.refs]; all_goals simp
  | .box .. => by rw [SV.refs]
  | .elt .. => by rw [SV.refs]
  | .osl .. => by rw [SV.refs]
  | .vsl .. => by rw [SV.refs]
  | .agg cs => by rw [SV.refs]; exact svL_all cs
  | .tup cs => by rw [SV.refs]; exact svL_all cs
  | .fn f cs => by rw [SV.refs]; exact svL_all cs
theorem svL_all : ∀ (l : List (SV D)), SV.refsL (fun _ => true) (fun _ _ => true) l = true
  | [] => by rw [SV.refsL]
  | c :: l => by rw [SV.refsL, sv_all c, svL_all l]; rfl
end
theorem refsF_all (h : ∀ x : SV D, x.refs (fun _ => true) (fun _ _ => true) = true) : ∀ (l : List (List (Nat × SV D))), refsF (fun _ => true) (fun _ _ => true) l = true
  | [] => rfl
  | p :: l => by rw [refsF, refsR_all p h, refsF_all h l]; rfl
theorem fzL_get (id ver : Nat) (fr : Bool) (t : Ty) (xs : E D (.list t)) : ∀ (l : List (SV D)) (i : Nat), (SV.fzL id ver fr t xs l)[i]? = (l[i]?).map (SV.fz id ver fr t xs)
  | [], i => by rw [SV.fzL]; rfl
  | c :: l, 0 => by rw [SV.fzL]; rfl
  | c :: l, i + 1 => by rw [SV.fzL]; exact fzL_get id ver fr t xs l i
theorem fzL_length (id ver : Nat) (fr : Bool) (t : Ty) (xs : E D (.list t)) : ∀ (l : List (SV D)), (SV.fzL id ver fr t xs l).length = l.length
  | [] => by rw [SV.fzL]
  | c :: l => by rw [SV.fzL, List.length_cons, List.length_cons, fzL_length id ver fr t xs l]
section
variable {F : List (Nat → AV)} {st : SSt D} {m : Nat → Nat} {nx id ver : Nat} {fr : Bool} {t : Ty} {xs : E D (.list t)} {e : TypeId} {w : World} {G : Gh} {H H' : Nat → SB D}
mutual
theorem fz_rel (hs : 0 < G.sz (m id)) (hle : MemLe m H m H' (fun _ => true) (fun _ _ => true)) (hb : rowLen H id ver = some (List.length xs.den)) (hfz : ∀ v, RelV w G (.osl (m id) (List.length xs.den)) v → RelV w (G.fz (m id)) (.ro fr t.size ((xs.den : List t.den).map (t.cells fr))) v) (hfzV : ∀ lo len v, RelV w G (.vsl (m id) (List.length xs.den) lo len) v → RelV w (G.fz (m id)) (.ro fr t.size (((xs.den : List t.den).map (t.cells fr)).drop lo |>.take len)) v) :
    ∀ (x : SV D) (v : Value), RelV w G (x.enc m H) v → RelV w (G.fz (m id)) ((x.fz id ver fr t xs).enc m H') v
  | .osl i v', v, r => by
    rw [SV.fz]
    cases hc : (Nat.beq i id && Nat.beq v' ver) with
    | true =>
      rw [Bool.and_eq_true] at hc
      have e1 := Nat.eq_of_beq_eq_true hc.1
      have e2 := Nat.eq_of_beq_eq_true hc.2
      subst e1; subst e2
      rw [SV.enc, hb] at r
      show RelV w _ (SV.enc m H' (.ro fr t xs)) v
      rw [SV.enc]
      exact hfz v r
    | false => exact (enc_les hle (.osl i v') (sv_all _)).rel (r.ext (Ext.fz hs))
  | .agg cs, v, r => by
    rw [SV.enc] at r
    rw [SV.fz, SV.enc]
    obtain ⟨us, rfl, hsz, hr⟩ := r.agg'
    rw [encL_map, List.length_map] at hsz
    refine .agg _ _ (by rw [encL_map, List.length_map, fzL_length, hsz]) fun i a u ha hu => ?_
    exact fzL_rel hs hle hb hfz hfzV cs us hr i a u ha hu
  | .tup cs, v, r => by
    rw [SV.enc] at r
    rw [SV.fz, SV.enc]
    obtain ⟨us, rfl, hsz, hr⟩ := r.tup'
    rw [encL_map, List.length_map] at hsz
    refine .tup _ _ (by rw [encL_map, List.length_map, fzL_length, hsz]) fun i a u ha hu => ?_
    exact fzL_rel hs hle hb hfz hfzV cs us hr i a u ha hu
  | .fn f cs, v, r => by
    rw [SV.enc] at r
    rw [SV.fz, SV.enc]
    obtain ⟨us, rfl, hsz, hr⟩ := r.fn'
    rw [encL_map, List.length_map] at hsz
    refine .fn _ _ _ _ rfl (by rw [encL_map, List.length_map, fzL_length, hsz]) fun i a u ha hu => ?_
    exact fzL_rel hs hle hb hfz hfzV cs us hr i a u ha hu
  | .any, v, r => by rw [SV.fz]; exact (enc_les hle _ (sv_all _)).rel (r.ext (Ext.fz hs)); all_goals simp
  | .und, v, r => by rw [SV.fz]; exact (enc_les hle _ (sv_all _)).rel (r.ext (Ext.fz hs)); all_goals simp
  | .int .., v, r => by rw [SV.fz]; exact (enc_les hle _ (sv_all _)).rel (r.ext (Ext.fz hs)); all_goals simp
  | .bool .., v, r => by rw [SV.fz]; exact (enc_les hle _ (sv_all _)).rel (r.ext (Ext.fz hs)); all_goals simp
  | .str .., v, r => by rw [SV.fz]; exact (enc_les hle _ (sv_all _)).rel (r.ext (Ext.fz hs)); all_goals simp
  | .nilp, v, r => by rw [SV.fz]; exact (enc_les hle _ (sv_all _)).rel (r.ext (Ext.fz hs)); all_goals simp
  | .nils, v, r => by rw [SV.fz]; exact (enc_les hle _ (sv_all _)).rel (r.ext (Ext.fz hs)); all_goals simp
  | .nilf, v, r => by rw [SV.fz]; exact (enc_les hle _ (sv_all _)).rel (r.ext (Ext.fz hs)); all_goals simp
  | .pk .., v, r => by rw [SV.fz]; exact (enc_les hle _ (sv_all _)).rel (r.ext (Ext.fz hs)); all_goals simp
  | .ro .., v, r => by rw [SV.fz]; exact (enc_les hle _ (sv_all _)).rel (r.ext (Ext.fz hs)); all_goals simp
  | .box .., v, r => by rw [SV.fz]; exact (enc_les hle _ (sv_all _)).rel (r.ext (Ext.fz hs)); all_goals simp
  | .vsl i v' lo hi, v, r => by
    rw [SV.fz]
    cases hc : (Nat.beq i id && Nat.beq v' ver) with
    | true =>
      rw [Bool.and_eq_true] at hc
      have e1 := Nat.eq_of_beq_eq_true hc.1
      have e2 := Nat.eq_of_beq_eq_true hc.2
      subst e1; subst e2
      rw [SV.enc, hb] at r
      show RelV w _ (SV.enc m H' (.ro fr t (.sub xs lo hi))) v
      rw [SV.enc]
      have k := hfzV _ _ v r
      rw [← List.map_drop, ← List.map_take, ← List.drop_take] at k
      exact k
    | false => exact (enc_les hle (.vsl i v' lo hi) (sv_all _)).rel (r.ext (Ext.fz hs))
  | .elt .., v, r => by rw [SV.fz]; exact (enc_les hle _ (sv_all _)).rel (r.ext (Ext.fz hs)); all_goals simp
theorem fzL_rel (hs : 0 < G.sz (m id)) (hle : MemLe m H m H' (fun _ => true) (fun _ _ => true)) (hb : rowLen H id ver = some (List.length xs.den)) (hfz : ∀ v, RelV w G (.osl (m id) (List.length xs.den)) v → RelV w (G.fz (m id)) (.ro fr t.size ((xs.den : List t.den).map (t.cells fr))) v) (hfzV : ∀ lo len v, RelV w G (.vsl (m id) (List.length xs.den) lo len) v → RelV w (G.fz (m id)) (.ro fr t.size (((xs.den : List t.den).map (t.cells fr)).drop lo |>.take len)) v) :
    ∀ (cs : List (SV D)) (us : Array Value), (∀ (i : Nat) (a : AV) (u : Value), (SV.encL m H cs)[i]? = some a → us[i]? = some u → RelV w G a u) → ∀ (i : Nat) (a : AV) (u : Value), (SV.encL m H' (SV.fzL id ver fr t xs cs))[i]? = some a → us[i]? = some u → RelV w (G.fz (m id)) a u
  | [], us, hr, i, a, u, ha, hu => by rw [SV.fzL, SV.encL] at ha; simp at ha
  | c :: l, us, hr, 0, a, u, ha, hu => by
    rw [SV.fzL, SV.encL] at ha
    simp only [List.getElem?_cons_zero, Option.some.injEq] at ha
    subst ha
    exact fz_rel hs hle hb hfz hfzV c u (hr 0 _ u (by rw [SV.encL]; rfl) hu)
  | c :: l, us, hr, i + 1, a, u, ha, hu => by
    rw [SV.fzL, SV.encL] at ha
    have := fzL_rel hs hle hb hfz hfzV l (us.extract 1 us.size) (fun j b y hb' hy => hr (j + 1) b y (by rw [SV.encL]; exact hb') (by
      rw [Array.getElem?_extract] at hy
      split at hy
      · rw [Nat.add_comm]; exact hy
      · cases hy)) i a u (by simpa using ha) (by
      rw [Array.getElem?_extract]
      have hi : i + 1 < us.size := (Array.getElem?_eq_some_iff.1 hu).1
      rw [if_pos (by omega), Nat.add_comm]; exact hu)
    exact this
end
end
/-! ### States -/
theorem look_fm {α : Type} (d : α) (f : α → α) {id k : Nat} (hk : k ≠ id) : ∀ (l : List (Nat × α)), look d ((l.filter fun p => !Nat.beq p.1 id).map fun p => (p.1, f p.2)) k = f (look d l k) ∨ (look d ((l.filter fun p => !Nat.beq p.1 id).map fun p => (p.1, f p.2)) k = d ∧ look d l k = d)
  | [] => .inr ⟨rfl, rfl⟩
  | (j, v) :: l => by
    have ih := look_fm d f hk l
    by_cases e : j = id
    · subst e
      have e1 : (((j, v) :: l).filter fun p => !Nat.beq p.1 j) = l.filter fun p => !Nat.beq p.1 j := by
        rw [List.filter_cons]; simp
      rw [e1, look_cons, if_neg (fun h => hk h.symm)]
      exact ih
    · have hbq : Nat.beq j id = false := by rw [← Bool.not_eq_true]; intro h; exact e (Nat.eq_of_beq_eq_true h)
      have e1 : (((j, v) :: l).filter fun p => !Nat.beq p.1 id) = (j, v) :: l.filter fun p => !Nat.beq p.1 id := by
        rw [List.filter_cons]; simp [hbq]
      rw [e1, List.map_cons, look_cons, look_cons]
      split
      · exact .inl rfl
      · exact ih
theorem look_fid {α : Type} (d : α) (f : α → α) (id : Nat) (l : List (Nat × α)) : look d ((l.filter fun p => !Nat.beq p.1 id).map fun p => (p.1, f p.2)) id = d := by
  refine look_none fun h => ?_
  obtain ⟨p, hp, e⟩ := List.mem_map.1 h
  obtain ⟨q, hq, rfl⟩ := List.mem_map.1 hp
  have := (List.mem_filter.1 hq).2
  have e : q.1 = id := e
  rw [e, Nat.beq_refl] at this
  cases this
theorem look_mp {α : Type} (d : α) (f : α → α) (k : Nat) : ∀ (l : List (Nat × α)), look d (l.map fun p => (p.1, f p.2)) k = f (look d l k) ∨ look d (l.map fun p => (p.1, f p.2)) k = look d l k
  | [] => .inr rfl
  | (j, v) :: l => by
    rw [List.map_cons, look_cons, look_cons]
    split
    · exact .inl rfl
    · exact look_mp d f k l
section
variable {F : List (Nat → AV)} {st : SSt D} {s : ASt} {m : Nat → Nat} {nx id ver : Nat} {fr : Bool} {t : Ty} {xs : E D (.list t)} {e : TypeId}
theorem frz_eq (hb : st.blk id = .row fr t xs e ver) (hk : hasN (st.hk.map (·.1)) id = false) : st.frz id = ⟨st.regs.map (fun p => (p.1, p.2.fz id ver (fr || t.noL) t xs)), st.kp, (st.heap.filter fun p => !Nat.beq p.1 id).map (fun p => (p.1, p.2.fz id ver (fr || t.noL) t xs)), st.hk, st.fr, st.nx⟩ := by
  unfold SSt.frz
  rw [hb]
  simp only [hk, cond_false]
theorem frz_blk (hb : st.blk id = .row fr t xs e ver) (hk : hasN (st.hk.map (·.1)) id = false) (k : Nat) : (k = id ∧ (st.frz id).blk k = .dead) ∨ (k ≠ id ∧ ((st.frz id).blk k = (st.blk k).fz id ver (fr || t.noL) t xs ∨ (st.frz id).blk k = st.blk k)) := by
  rw [frz_eq hb hk]
  by_cases e1 : k = id
  · subst e1
    refine .inl ⟨rfl, ?_⟩
    show look (look .dead st.hk k) _ k = _
    rw [look_fid]
    refine look_none fun h => ?_
    rw [hasN_of h] at hk
    cases hk
  · refine .inr ⟨e1, ?_⟩
    show look (look .dead st.hk k) _ k = SB.fz id ver (fr || t.noL) t xs (look (look .dead st.hk k) st.heap k) ∨ look (look .dead st.hk k) _ k = look (look .dead st.hk k) st.heap k
    rcases look_fm (look SB.dead st.hk k) (SB.fz id ver (fr || t.noL) t xs) e1 st.heap with h | ⟨h1, h2⟩
    · exact .inl h
    · exact .inr (h1.trans h2.symm)
theorem fz_box (b : SB D) : (match b.fz id ver fr t xs with | .box .. => true | _ => false) = (match b with | .box .. => true | _ => false) := by cases b <;> rfl
theorem frz_ok (hm : MOk m nx st) (hf : FrOk m st.blk st.fr F) (id : Nat) : StL F (st.frz id) (st.enc m nx) ∧ Fix st (st.frz id) := by
  have same : st.frz id = st → StL F (st.frz id) (st.enc m nx) ∧ Fix st (st.frz id) := fun h => by rw [h]; exact ⟨⟨m, nx, hm, .refl _, hf⟩, .refl st⟩
  cases hb : st.blk id with
  | dead => exact same (by unfold SSt.frz; rw [hb])
  | box cs e => exact same (by unfold SSt.frz; rw [hb])
  | row fr t xs e ver =>
    cases hk : hasN (st.hk.map (·.1)) id with
    | true => exact same (by unfold SSt.frz; rw [hb]; simp only [hk, cond_true])
    | false =>
      have hbk := frz_blk hb hk
      have heq := frz_eq hb hk
      have hlive : st.blk id ≠ .dead := by rw [hb]; simp
      have hlv : ∀ k, (st.frz id).blk k ≠ .dead → st.blk k ≠ .dead ∧ k ≠ id := by
        intro k h
        rcases hbk k with ⟨_, h2⟩ | ⟨h1, h2 | h2⟩
        · exact absurd h2 h
        · refine ⟨fun h3 => h ?_, h1⟩
          rw [h2, h3]; rfl
        · exact ⟨by rw [← h2]; exact h, h1⟩
      have hm' : MOk m nx (st.frz id) := by
        refine ⟨fun k h => hm.lt k (hlv k h).1, fun k k' h h' => hm.inj k k' (hlv k h).1 (hlv k' h').1, fun p hp => ?_⟩
        rw [heq] at hp ⊢
        rcases List.mem_append.1 hp with hp | hp
        · obtain ⟨q, hq, rfl⟩ := List.mem_map.1 hp
          have := hm.keys q (List.mem_append_left _ (List.mem_filter.1 hq).1)
          refine ⟨this.1, ?_⟩
          have h2 := this.2
          show SB.fz id ver (fr || t.noL) t xs q.2 ≠ .dead
          cases hq2 : q.2 with
          | dead => exact absurd hq2 h2
          | box => rw [SB.fz]; simp
          | row => rw [SB.fz]; all_goals simp
        · exact hm.keys p (List.mem_append_right _ hp)
      have hle : MemLe m st.blk m (st.frz id).blk (fun _ => true) (fun _ _ => true) := by
        refine ⟨fun k _ => .inr ⟨?_, rfl⟩, fun k v _ => ?_⟩
        · unfold isBox
          rcases hbk k with ⟨h1, h2⟩ | ⟨_, h2 | h2⟩
          · rw [h2, h1, hb]
          · rw [h2]; exact fz_box _
          · rw [h2]
        · unfold rowLen
          rcases hbk k with ⟨h1, h2⟩ | ⟨_, h2 | h2⟩
          · rw [h2]; exact .inl rfl
          · refine .inr ⟨?_, rfl⟩
            rw [h2]
            cases st.blk k <;> rfl
          · rw [h2]; exact .inr ⟨rfl, rfl⟩
      have hbb := enc_blk hm hlive
      rw [hb, SB.enc] at hbb
      refine ⟨⟨m, nx, hm', ⟨fun {K n a w} ⟨G, r⟩ => ?_⟩, ?_⟩, by rw [heq]; exact ⟨rfl, rfl, rfl⟩⟩
      · have hkb := r.hr.blk (m id)
        rw [hbb] at hkb
        have hs : 0 < G.sz (m id) := by rw [hkb.2.2.1]; exact hkb.2.1
        have hx : Ext w G w (G.fz (m id)) := Ext.fz hs
        have hrl : rowLen st.blk id ver = some (List.length xs.den) := rowLen_eq hb (Nat.beq_refl _)
        have hfz : ∀ v, RelV w G (.osl (m id) (List.length xs.den)) v → RelV w (G.fz (m id)) (.ro (fr || t.noL) t.size ((xs.den : List t.den).map (t.cells (fr || t.noL)))) v := fun v hv => by
          rw [rows_fl]
          exact row_frozen r.hr hbb (rows_len _).symm hv (fun row hr a ha => by
            obtain ⟨x, _, rfl⟩ := List.mem_map.1 hr
            exact t.cells_isD _ x a ha)
        have hfzV : ∀ lo len v, RelV w G (.vsl (m id) (List.length xs.den) lo len) v → RelV w (G.fz (m id)) (.ro (fr || t.noL) t.size (((xs.den : List t.den).map (t.cells (fr || t.noL))).drop lo |>.take len)) v := fun lo len v hv => by
          rw [rows_fl]
          exact view_frozen r.hr hbb (rows_len _).symm hv (fun row hr a ha => by
            obtain ⟨x, _, rfl⟩ := List.mem_map.1 hr
            exact t.cells_isD _ x a ha)
        refine ⟨G.fz (m id), r.nx, ⟨r.hr.bs, r.hr.below, fun b h => r.hr.ownlt b h.1, fun k => ?_, fun i i' g h1 h2 hne hg => ?_, fun i g h1 hg => ?_⟩, r.ext.trans hx, r.size, r.defers, fun d => ?_⟩
        · rcases heap_cases hm' k with h | ⟨b, hbl, rfl⟩
          · rw [h]; trivial
          · obtain ⟨hl1, hl2⟩ := hlv b hbl
            have hmne : m b ≠ m id := fun e1 => hl2 (hm.inj b id hl1 hlive e1)
            have o := r.hr.blk (m b)
            rw [enc_blk hm hl1] at o
            rw [enc_blk hm' hbl]
            have hstep : ABok K.w0 w (G.fz (m id)) (m b) ((st.blk b).enc m st.blk) := o.step hx (fun _ => ⟨fz_ρ hmne, fz_ln hmne, fun _ _ => rfl⟩)
            have hsame : ABok K.w0 w (G.fz (m id)) (m b) ((st.blk b).enc m (st.frz id).blk) := by
              refine (encB_les hle (st.blk b) ?_).ok hstep
              cases st.blk b with
              | dead => rfl
              | box cs e => exact svL_all cs
              | row => rfl
            rcases hbk b with ⟨h1, _⟩ | ⟨_, h2 | h2⟩
            · exact absurd h1 hl2
            · rw [h2]
              cases hbx : st.blk b with
              | dead => exact absurd hbx hl1
              | row => rw [hbx] at hsame; exact hsame
              | box cs e' =>
                rw [hbx, SB.enc] at o
                obtain ⟨o1, o2, g, vs, o3, o4, o5, o6⟩ := o
                rw [SB.fz, SB.enc]
                rw [encL_map, List.length_map] at o5
                refine ⟨o1, o2, g, vs, by rw [fz_ρ hmne]; exact o3, o4, by rw [encL_map, List.length_map, fzL_length]; exact o5, fun i y hi => ?_⟩
                have hil : i < cs.length := by
                  have := (List.getElem?_eq_some_iff.1 hi).1
                  rw [encL_map, List.length_map, fzL_length] at this; exact this
                have hci : (SV.encL m st.blk cs)[i]? = some (SV.enc m st.blk cs[i]) := by
                  rw [encL_map, List.getElem?_map, List.getElem?_eq_getElem hil]; rfl
                obtain ⟨v, p1, p2, p3⟩ := o6 i _ hci
                refine ⟨v, p1, p2, ?_⟩
                rw [encL_map, List.getElem?_map, fzL_get, List.getElem?_eq_getElem hil] at hi
                have hi : SV.enc m (st.frz id).blk (SV.fz id ver (fr || t.noL) t xs cs[i]) = y := by injection hi
                rw [← hi]
                exact fz_rel hs hle hrl hfz hfzV _ v p3
            · rw [h2]; exact hsame
        · by_cases e1 : i = m id
          · subst e1
            have : (G.fz (m id)).ρ (m id) = .slice none 0 0 := if_pos rfl
            rw [this] at hg
            simp [ownBlk] at hg
          · rw [fz_ρ e1] at hg
            by_cases e2 : i' = m id
            · subst e2
              have : (G.fz (m id)).ρ (m id) = .slice none 0 0 := if_pos rfl
              rw [this]
              simp [ownBlk]
            · rw [fz_ρ e2]
              exact r.hr.dist i i' g h1 h2 hne hg
        · by_cases e1 : i = m id
          · subst e1
            have : (G.fz (m id)).ρ (m id) = .slice none 0 0 := if_pos rfl
            rw [this] at hg
            simp [ownBlk] at hg
          · rw [fz_ρ e1] at hg
            exact ⟨r.hr.ownhas i g h1 hg, fun h => r.hr.dist i (m id) g h1 hkb.1 e1 hg h⟩
        · rw [enc_get]
          have ho := r.regs d
          rw [enc_get] at ho
          have hget : (st.frz id).get d = (st.get d).fz id ver (fr || t.noL) t xs ∨ (st.frz id).get d = st.get d := by
            rw [heq]
            exact look_mp (look .any st.kp d) (SV.fz id ver (fr || t.noL) t xs) d st.regs
          rcases hget with h | h
          · rw [h]; exact fz_rel hs hle hrl hfz hfzV _ _ ho
          · rw [h]; exact (enc_les hle _ (sv_all _)).rel (ho.ext hx)
      · have : (st.frz id).fr = st.fr := by rw [heq]
        rw [this]
        exact hf.les' hle (refsF_all sv_all _)
theorem frzL_ok : ∀ (l : List Nat) (st : SSt D) {s : ASt}, StL F st s → StL F (st.frzL l) s
  | [], st, s, h => h
  | id :: l, st, s, h => by
    obtain ⟨m, nx, hm, hr, hf⟩ := h
    obtain ⟨m', nx', g1, g2, g3⟩ := (frz_ok hm hf id).1
    exact frzL_ok l _ ⟨m', nx', g1, hr.trans g2, g3⟩
theorem frz_fix (st : SSt D) (id : Nat) : Fix st (st.frz id) := by
  unfold SSt.frz
  split
  · cases hasN (st.hk.map (·.1)) id with
    | true => exact .refl st
    | false => exact ⟨rfl, rfl, rfl⟩
  · exact .refl st
theorem frzL_fix : ∀ (l : List Nat) (st : SSt D), Fix st (st.frzL l)
  | [], st => .refl st
  | id :: l, st => (frz_fix st id).trans (frzL_fix l _)
end
/-! ### What a cut asks to be data -/
section
variable {V : Ty → Type}
mutual
def wantK : SK → SV V → List Nat
  | .ro .., .osl id _ => [id]
  | .ro .., .vsl id _ _ _ => [id]
  | .agg l, .agg cs => wantKL l cs
  | .tup l, .tup cs => wantKL l cs
  | .fn _ l, .fn _ cs => wantKL l cs
  | _, _ => []
def wantKL : List SK → List (SV V) → List Nat
  | s :: l, c :: cs => wantK s c ++ wantKL l cs
  | _, _ => []
end
def wantI (st : SSt V) (mp : List (Nat × Nat)) : List Itm → List Nat
  | [] => []
  | .reg d s :: l => wantK s (st.get d) ++ wantI st mp l
  | .box b ks _ :: l => (match st.blk (mpI mp b) with
    | .box cs _ => wantKL ks cs
    | _ => []) ++ wantI st mp l
  | .row .. :: l => wantI st mp l
/-- a state as a cut wants it: nil slices that are rows there, rows that are data there -/
def matF (sg : Sig) (st : SSt V) : SSt V := (mat sg.nl st).frzL (wantI (mat sg.nl st) (mapOf (mat sg.nl st) sg) sg.items)
mutual
def SV.osls : SV V → List Nat
  | .osl id _ => [id]
  | .agg cs => SV.oslsL cs
  | .tup cs => SV.oslsL cs
  | _ => []
def SV.oslsL : List (SV V) → List Nat
  | [] => []
  | c :: l => c.osls ++ SV.oslsL l
end
/-- what must be data ahead of an operation -/
def needF (st : SSt V) : Op → List Nat
  | .store _ a v => match st.ev a with
    | .elt .. => (st.ev v).osls
    | _ => []
  | .buildSlice _ _ parts => SV.oslsL (parts.toList.map fun p => st.ev p.2)
  | _ => []
end
end Go.Proofs.Ytedjnjgnadbkaaa
/- Decompiling: residual programs; arguments and results as data. No program in sight. -/
namespace Go.Proofs.Ytedjnjgnadbkaaa
open Go Go.RowKit

/-! ### Residual programs -/
inductive G (V W : Ty → Type) (ρ : Ty) where
  | ret (e : E V ρ)
  | fail
  | ite (c : E V .bool) (a b : G V W ρ)
  | grd (c : E V .bool) (a : G V W ρ)
  | lt {t : Ty} (e : E V t) (k : V t → G V W ρ)
  | call {a r : Ty} (f : Nat → a.den → Option r.den) (nm : Nat) (x : E V a) (k : V r → G V W ρ)
  | join {t : Ty} (J : V t → G V W ρ) (body : W t → G V W ρ)
  | loop {t : Ty} (body : W t → V t → G V W ρ) (e : E V t)
  | jump {t : Ty} (j : W t) (e : E V t)
abbrev KD (ρ : Ty) : Ty → Type := fun t => t.den → Option ρ.den
def loopF {α β : Type} (f : (α → Option β) → α → Option β) : Nat → α → Option β
  | 0, _ => none
  | n + 1, x => f (loopF f n) x
def joinF {α β : Type} (J : α → Option β) (b : (α → Option β) → Option β) : Option β := b J
def bindO {α β : Type} (x : Option α) (k : α → Option β) : Option β := match x with
  | some y => k y
  | none => none
def G.den {ρ : Ty} (fu : Nat) : G D (KD ρ) ρ → Option ρ.den
  | .ret e => some e.den
  | .fail => none
  | .ite c a b => bif c.den then a.den fu else b.den fu
  | .grd c a => bif c.den then a.den fu else none
  | .lt e k => (k e.den).den fu
  | .call f _ x k => bindO (f fu x.den) fun y => (k y).den fu
  | .join J b => joinF (fun x => (J x).den fu) fun j => (b j).den fu
  | .loop b e => loopF (fun j x => (b j x).den fu) fu e.den
  | .jump j e => j e.den
section
variable {V W : Ty → Type} {ρ : Ty}
def grdG (c : E V .bool) (g : G V W ρ) : G V W ρ := match c with
  | .bL true => g
  | .bL false => .fail
  | c => .grd c g
def iteG (c : E V .bool) (a b : G V W ρ) : G V W ρ := match c with
  | .bL true => a
  | .bL false => b
  | c => .ite c a b
def E.atomic {t : Ty} (e : E V t) : Bool := match e with
  | .var _ => true
  | .iL _ _ => true
  | .bL _ => true
  | .sL _ => true
  | .nil _ => true
  | .uni => true
  | _ => false
def letV (x : SV V) (K : SV V → G V W ρ) : G V W ρ := match x with
  | .int k e => bif e.atomic then K (.int k e) else .lt e fun v => K (.int k (.var v))
  | .bool e => bif e.atomic then K (.bool e) else .lt e fun v => K (.bool (.var v))
  | .str e => bif e.atomic then K (.str e) else .lt e fun v => K (.str (.var v))
  | .pk fr t e o => bif e.atomic then K (.pk fr t e o) else .lt e fun v => K (.pk fr t (.var v) o)
  | .ro fr t e => bif e.atomic then K (.ro fr t e) else .lt e fun v => K (.ro fr t (.var v))
  | x => K x
end
section
variable {ρ : Ty} {fu : Nat}
theorem grdG_den {c : E D .bool} {g : G D (KD ρ) ρ} {r : ρ.den} (h : (grdG c g).den fu = some r) : c.den = true ∧ g.den fu = some r := by
  unfold grdG at h
  split at h
  · exact ⟨rfl, h⟩
  · cases h
  · rw [G.den] at h
    cases hc : (c.den : Bool) with
    | true => rw [hc] at h; exact ⟨rfl, h⟩
    | false => rw [hc] at h; cases h
theorem iteG_den {c : E D .bool} {a b : G D (KD ρ) ρ} {r : ρ.den} (h : (iteG c a b).den fu = some r) : (c.den = true ∧ a.den fu = some r) ∨ (c.den = false ∧ b.den fu = some r) := by
  unfold iteG at h
  split at h
  · exact .inl ⟨rfl, h⟩
  · exact .inr ⟨rfl, h⟩
  · rw [G.den] at h
    cases hc : (c.den : Bool) with
    | true => rw [hc] at h; exact .inl ⟨rfl, h⟩
    | false => rw [hc] at h; exact .inr ⟨rfl, h⟩
theorem letV_den {x : SV D} {K : SV D → G D (KD ρ) ρ} {r : ρ.den} (h : (letV x K).den fu = some r) : ∃ y, (∀ m H, y.enc m H = x.enc m H) ∧ (K y).den fu = some r := by
  unfold letV at h
  split at h
  · rename_i k e
    cases ha : e.atomic with
    | true => rw [ha] at h; exact ⟨_, fun _ _ => rfl, h⟩
    | false => rw [ha] at h; exact ⟨_, fun _ _ => by rw [SV.enc, SV.enc]; rfl, h⟩
  · rename_i e
    cases ha : e.atomic with
    | true => rw [ha] at h; exact ⟨_, fun _ _ => rfl, h⟩
    | false => rw [ha] at h; exact ⟨_, fun _ _ => by rw [SV.enc, SV.enc]; rfl, h⟩
  · rename_i e
    cases ha : e.atomic with
    | true => rw [ha] at h; exact ⟨_, fun _ _ => rfl, h⟩
    | false => rw [ha] at h; exact ⟨_, fun _ _ => by rw [SV.enc, SV.enc]; rfl, h⟩
  · rename_i fr t e o
    cases ha : e.atomic with
    | true => rw [ha] at h; exact ⟨_, fun _ _ => rfl, h⟩
    | false => rw [ha] at h; exact ⟨_, fun _ _ => by rw [SV.enc, SV.enc]; rfl, h⟩
  · rename_i fr t e
    cases ha : e.atomic with
    | true => rw [ha] at h; exact ⟨_, fun _ _ => rfl, h⟩
    | false => rw [ha] at h; exact ⟨_, fun _ _ => by rw [SV.enc, SV.enc]; rfl, h⟩
  · exact ⟨_, fun _ _ => rfl, h⟩
end
/-! ### Arguments as data -/
section
variable {V : Ty → Type}
/-- a slice as data: also a part of an own row -/
def srcV (st : SSt V) (t : Ty) (x : SV V) : Option (E V (.list t)) := match x with
  | .vsl id ver lo hi => match st.blk id with
    | .row _ t' xs _ v => bif Nat.beq ver v then (match Ty.eqd t' t with
      | some ⟨h⟩ => some (.sub (h ▸ xs) lo hi)
      | none => none) else none
    | _ => none
  | x => match srcS st t x with
    | some (_, e) => some e
    | none => none
def exF (st : SSt V) : (t : Ty) → List (SV V) → Option (E V t × List (SV V))
  | .int k, l => match l with
    | .int k' e :: l => if h : k' = k then some (h ▸ e, l) else none
    | _ => none
  | .bool, l => match l with
    | .bool e :: l => some (e, l)
    | _ => none
  | .str, l => match l with
    | .str e :: l => some (e, l)
    | _ => none
  | .list t, l => match l with
    | c :: l => match srcV st t c with
      | some e => some (e, l)
      | none => none
    | [] => none
  | .unit, l => some (.uni, l)
  | .pair a b, l => match exF st a l with
    | some (x, l') => match exF st b l' with
      | some (y, l'') => some (.pair x y, l'')
      | none => none
    | none => none
  | .agg t, l => match exF st t l with
    | some (x, l') => some (.aggI x, l')
    | none => none
  | .ptr _, _ => none
def exFA (st : SSt V) (t : Ty) (l : List (SV V)) : Option (E V t) := match exF st t l with
  | some (x, []) => some x
  | _ => none
def exAggA (st : SSt V) (t : Ty) (x : SV V) : Option (E V (.agg t)) := match x with
  | .agg cs => match exFA st t cs with
    | some e => some (.aggI e)
    | none => none
  | _ => none
def exPtrA (st : SSt V) (t : Ty) (x : SV V) : Option (E V (.ptr t)) := match x with
  | .pk _ t' e o => bif Nat.beq o 0 && Nat.blt 0 t.size then (match Ty.eqd t' t with
    | some ⟨h⟩ => some (.ptrI (h ▸ e))
    | none => none) else none
  | .box id o => match st.blk id with
    | .box cs _ => bif Nat.beq o 0 && Nat.blt 0 t.size then (match exFA st t cs with
      | some e => some (.ptrI e)
      | none => none) else none
    | _ => none
  | _ => none
/-- a pointer into a larger struct -/
def partC (o n : Nat) (cs : List (SV V)) : List (SV V) := (cs.drop o).take n
def exPtrO (st : SSt V) (t : Ty) (x : SV V) : Option (E V (.ptr t)) := bif Nat.blt 0 t.size then (match x with
  | .pk fr t' e o => match exFA st t (partC o t.size (cellsE fr t' e)) with
    | some e => some (.ptrI e)
    | none => none
  | .box id o => match st.blk id with
    | .box cs _ => match exFA st t (partC o t.size cs) with
      | some e => some (.ptrI e)
      | none => none
    | _ => none
  | .elt id ver i o => match st.blk id with
    | .row fr ty xs _ v => bif Nat.beq ver v then (match exFA st t (partC o t.size (cellsE fr ty (.at xs i))) with
      | some e => some (.ptrI e)
      | none => none) else none
    | _ => none
  | _ => none) else none
def exG (st : SSt V) : (t : Ty) → SV V → Option (E V t)
  | .int k, x => prjInt k x
  | .bool, x => prjBool x
  | .str, x => prjStr x
  | .list t, x => bif t.flat then (match srcV st t x with
    | some e => some e
    | none => none) else none
  | .agg t, x => exAggA st t x
  | .ptr t, x => match exPtrA st t x with
    | some e => some e
    | none => exPtrO st t x
  | _, _ => none
def exArgs (st : SSt V) : (t : Ty) → List (SV V) → Option (E V t)
  | .unit, l => match l with
    | [] => some .uni
    | _ => none
  | .pair a b, l => match l with
    | c :: l => match exG st a c, exArgs st b l with
      | some x, some y => some (.pair x y)
      | _, _ => none
    | [] => none
  | _, _ => none
/-- data as a value -/
def svE (fr : Bool) : (t : Ty) → E V t → SV V
  | .int k, e => .int k e
  | .bool, e => .bool e
  | .str, e => .str e
  | .list t, e => .ro fr t e
  | .agg t, e => .agg (cellsE fr t e.aggE')
  | .ptr t, e => .pk fr t e.ptrE' 0
  | .unit, _ => .any
  | .pair _ _, _ => .any
def svsE (fr : Bool) : (t : Ty) → E V t → List (SV V)
  | .pair a b, e => svE fr a e.fst' :: svsE fr b e.snd'
  | _, _ => []
def oneOfS (xs : List (SV V)) : SV V := match xs with
  | [x] => x
  | xs => .tup xs
end
section
variable {m : Nat → Nat} {nx : Nat} {H : Nat → SB D} {st : SSt D}
theorem svE_enc (fr : Bool) : ∀ (t : Ty) (e : E D t), (svE fr t e).enc m H = t.av fr e.den
  | .int k, e => by rw [svE, SV.enc, Ty.av]
  | .bool, e => by rw [svE, SV.enc, Ty.av]
  | .str, e => by rw [svE, SV.enc, Ty.av]
  | .list t, e => by rw [svE, SV.enc, Ty.av]
  | .agg t, e => by rw [svE, SV.enc, Ty.av, cellsE_enc, aggE'_den]
  | .ptr t, e => by rw [svE, SV.enc, Ty.av, ptrE'_den]
  | .unit, e => by rw [svE, SV.enc, Ty.av]
  | .pair a b, e => by rw [svE, SV.enc, Ty.av]
theorem svsE_enc (fr : Bool) : ∀ (t : Ty) (e : E D t), SV.encL m H (svsE fr t e) = t.avs fr e.den
  | .pair a b, e => by rw [svsE, SV.encL, svE_enc, svsE_enc fr b, fst'_den, snd'_den, Ty.avs]
  | .int k, e => by rw [svsE, SV.encL, Ty.avs]; all_goals simp
  | .bool, e => by rw [svsE, SV.encL, Ty.avs]; all_goals simp
  | .str, e => by rw [svsE, SV.encL, Ty.avs]; all_goals simp
  | .list t, e => by rw [svsE, SV.encL, Ty.avs]; all_goals simp
  | .agg t, e => by rw [svsE, SV.encL, Ty.avs]; all_goals simp
  | .ptr t, e => by rw [svsE, SV.encL, Ty.avs]; all_goals simp
  | .unit, e => by rw [svsE, SV.encL, Ty.avs]; all_goals simp
theorem oneOfS_enc (xs : List (SV D)) : (oneOfS xs).enc m H = oneOf (SV.encL m H xs) := by
  match xs with
  | [] => rw [oneOfS, SV.enc, SV.encL]; · rfl
          · simp
  | [x] => rw [oneOfS, SV.encL, SV.encL]; rfl
  | a :: b :: l => rw [oneOfS, SV.enc, SV.encL, SV.encL]; · rfl
                   · simp
theorem frz_list {rt : Ty} {x : SV D} {fr : Bool} {ys : E D (.list rt)} (hm : MOk m nx st) (h : srcS st rt x = some (fr, ys)) : FrzA (st.enc m nx).heap (x.enc m st.blk) (.ro false rt.size ((ys.den : List rt.den).map (rt.cells false))) := by
  unfold srcS at h
  split at h
  · rename_i fr' t' xs
    split at h
    · rename_i ht _
      subst ht
      simp only [Option.some.injEq, Prod.mk.injEq] at h
      obtain ⟨rfl, rfl⟩ := h
      rw [SV.enc]
      exact .dat _ rfl _ (by rw [AV.old, Ty.rows_old])
    · cases h
  · rename_i id ver
    split at h
    · rename_i fr' t' xs e v hb
      cases hv : Nat.beq ver v with
      | false => rw [hv] at h; cases h
      | true =>
        rw [hv] at h
        simp only [cond_true] at h
        split at h
        · rename_i ht _
          subst ht
          simp only [Option.some.injEq, Prod.mk.injEq] at h
          obtain ⟨rfl, rfl⟩ := h
          rw [SV.enc, rowLen_eq hb hv]
          have hbb := enc_blk hm (k := id) (by rw [hb]; simp)
          rw [hb, SB.enc] at hbb
          refine .osl _ _ _ _ _ _ hbb (rows_len _).symm (fun row hr a ha => ?_) (Ty.rows_old _ _ _)
          obtain ⟨x, _, rfl⟩ := List.mem_map.1 hr
          exact t'.cells_isD _ x a ha
        · cases h
    · cases h
  · simp only [Option.some.injEq, Prod.mk.injEq] at h
    obtain ⟨rfl, rfl⟩ := h
    rw [SV.enc]
    exact .nilro _
  · cases h
theorem frz_listV {rt : Ty} {x : SV D} {ys : E D (.list rt)} (hm : MOk m nx st) (h : srcV st rt x = some ys) : FrzA (st.enc m nx).heap (x.enc m st.blk) (.ro false rt.size ((ys.den : List rt.den).map (rt.cells false))) := by
  unfold srcV at h
  split at h
  · rename_i id ver lo hi
    split at h
    · rename_i fr' t' xs e v hb
      cases hv : Nat.beq ver v with
      | false => rw [hv] at h; cases h
      | true =>
        rw [hv] at h
        simp only [cond_true] at h
        split at h
        · rename_i ht _
          subst ht
          simp only [Option.some.injEq] at h
          subst h
          rw [SV.enc, rowLen_eq hb hv]
          have hbb := enc_blk hm (k := id) (by rw [hb]; simp)
          rw [hb, SB.enc] at hbb
          refine .vsl _ _ _ _ _ _ _ _ hbb (rows_len _).symm (fun row hr a ha => ?_) ?_
          · obtain ⟨x, _, rfl⟩ := List.mem_map.1 hr
            exact t'.cells_isD _ x a ha
          · rw [← List.map_drop, ← List.map_take, Ty.rows_old]
            show _ = ((((xs.den : List t'.den).take (hi.den : Int).toNat).drop (lo.den : Int).toNat)).map (t'.cells false)
            rw [List.drop_take]
        · cases h
    · cases h
  · split at h
    · rename_i fr e h1
      injection h with h
      subst h
      exact frz_list hm h1
    · cases h
theorem FrzL.append {hp : List (Nat × AB)} {a b c d : List AV} (h : FrzL hp a b) (k : FrzL hp c d) : FrzL hp (a ++ c) (b ++ d) := by
  induction h with
  | nil => exact k
  | cons h _ ih => exact .cons h ih
theorem exF_ok (hm : MOk m nx st) : ∀ (t : Ty) (cs : List (SV D)) (e : E D t) (rest : List (SV D)), exF st t cs = some (e, rest) → ∃ pre, cs = pre ++ rest ∧ FrzL (st.enc m nx).heap (SV.encL m st.blk pre) (t.cells false e.den)
  | .int k, cs, e, rest, h => by
    unfold exF at h
    split at h
    · rename_i k' e0 l
      split at h
      · rename_i hk
        subst hk
        simp only [Option.some.injEq, Prod.mk.injEq] at h
        obtain ⟨rfl, rfl⟩ := h
        exact ⟨[.int k' e0], rfl, by rw [SV.encL, SV.encL, SV.enc, Ty.cells]; exact .cons .int .nil⟩
      · cases h
    · cases h
  | .bool, cs, e, rest, h => by
    unfold exF at h
    split at h
    · rename_i e0 l
      simp only [Option.some.injEq, Prod.mk.injEq] at h
      obtain ⟨rfl, rfl⟩ := h
      exact ⟨[.bool e0], rfl, by rw [SV.encL, SV.encL, SV.enc, Ty.cells]; exact .cons .bool .nil⟩
    · cases h
  | .str, cs, e, rest, h => by
    unfold exF at h
    split at h
    · rename_i e0 l
      simp only [Option.some.injEq, Prod.mk.injEq] at h
      obtain ⟨rfl, rfl⟩ := h
      exact ⟨[.str e0], rfl, by rw [SV.encL, SV.encL, SV.enc, Ty.cells]; exact .cons .str .nil⟩
    · cases h
  | .list t, cs, e, rest, h => by
    unfold exF at h
    split at h
    · rename_i c l
      split at h
      · rename_i e0 h1
        simp only [Option.some.injEq, Prod.mk.injEq] at h
        obtain ⟨rfl, rfl⟩ := h
        exact ⟨[c], rfl, by rw [SV.encL, SV.encL, Ty.cells]; exact .cons (frz_listV hm h1) .nil⟩
      · cases h
    · cases h
  | .unit, cs, e, rest, h => by
    rw [exF] at h
    simp only [Option.some.injEq, Prod.mk.injEq] at h
    obtain ⟨rfl, rfl⟩ := h
    exact ⟨[], rfl, by rw [SV.encL, Ty.cells]; exact .nil⟩
  | .pair a b, cs, e, rest, h => by
    rw [exF] at h
    split at h
    · rename_i x l' h1
      split at h
      · rename_i y l'' h2
        simp only [Option.some.injEq, Prod.mk.injEq] at h
        obtain ⟨rfl, rfl⟩ := h
        obtain ⟨p1, e1, g1⟩ := exF_ok hm a cs x l' h1
        obtain ⟨p2, e2, g2⟩ := exF_ok hm b l' y l'' h2
        refine ⟨p1 ++ p2, by rw [e1, e2, List.append_assoc], ?_⟩
        rw [encL_map, List.map_append, ← encL_map, ← encL_map, Ty.cells]
        exact g1.append g2
      · cases h
    · cases h
  | .agg t, cs, e, rest, h => by
    rw [exF] at h
    split at h
    · rename_i x l' h1
      simp only [Option.some.injEq, Prod.mk.injEq] at h
      obtain ⟨rfl, rfl⟩ := h
      obtain ⟨p1, e1, g1⟩ := exF_ok hm t cs x l' h1
      exact ⟨p1, e1, by rw [Ty.cells]; exact g1⟩
    · cases h
  | .ptr t, cs, e, rest, h => by rw [exF] at h; cases h
theorem exFA_ok {t : Ty} {cs : List (SV D)} {e : E D t} (hm : MOk m nx st) (h : exFA st t cs = some e) : FrzL (st.enc m nx).heap (SV.encL m st.blk cs) (t.cells false e.den) := by
  unfold exFA at h
  split at h
  · rename_i x h1
    injection h with h
    subst h
    obtain ⟨pre, e1, g⟩ := exF_ok hm t cs x [] h1
    rw [e1, List.append_nil]
    exact g
  · cases h
theorem cells_frzL {hp : List (Nat × AB)} (fr : Bool) (t : Ty) (x : t.den) : ∀ (i : Nat) (a b : AV), (t.cells fr x)[i]? = some a → (t.cells false x)[i]? = some b → FrzA hp a b := by
  intro i a b ha hb
  refine .dat a (t.cells_isD fr x a (List.mem_of_getElem? ha)) b ?_
  rw [← t.cells_old fr x, oldR_map, List.getElem?_map, ha] at hb
  injection hb
theorem part_at {α : Type} {l : List α} {o n i : Nat} {a : α} (h : l[o + i]? = some a) (hi : i < n) : ((l.drop o).take n)[i]? = some a := by
  rw [List.getElem?_take_of_lt hi, List.getElem?_drop]; exact h
theorem partC_enc (o n : Nat) (cs : List (SV D)) : SV.encL m H (partC o n cs) = ((SV.encL m H cs).drop o).take n := by
  unfold partC
  rw [encL_map, encL_map, List.map_take, List.map_drop]
theorem exPtrO_ok (hm : MOk m nx st) {t : Ty} {x : SV D} {e : E D (.ptr t)} (h : exPtrO st t x = some e) : FrzA (st.enc m nx).heap (x.enc m st.blk) ((Ty.ptr t).av false e.den) := by
  unfold exPtrO at h
  cases hz : Nat.blt 0 t.size with
  | false => rw [hz] at h; cases h
  | true =>
    rw [hz] at h
    simp only [cond_true] at h
    have hpos : 0 < t.size := by simpa using hz
    have fin : ∀ (cs : List (SV D)) (o : Nat) (e0 : E D t), exFA st t (partC o t.size cs) = some e0 → o + (t.cells false e0.den).length ≤ (SV.encL m st.blk cs).length ∧ (∀ (i : Nat) (a b : AV), (SV.encL m st.blk cs)[o + i]? = some a → (t.cells false e0.den)[i]? = some b → FrzA (st.enc m nx).heap a b) ∧ t.cells false e0.den ≠ [] := by
      intro cs o e0 h1
      have hl := exFA_ok hm h1
      rw [partC_enc] at hl
      have hlen := hl.len
      rw [Ty.cells_length, List.length_take, List.length_drop] at hlen
      refine ⟨by rw [Ty.cells_length]; omega, fun i a b ha hb => ?_, fun e1 => ?_⟩
      · have hi : i < t.size := by have := (List.getElem?_eq_some_iff.1 hb).1; rw [Ty.cells_length] at this; exact this
        exact hl.at i a b (part_at ha hi) hb
      · have := t.cells_length false e0.den
        rw [e1] at this
        rw [← this] at hpos
        cases hpos
    split at h
    · rename_i fr t' e1 o
      split at h
      · rename_i e0 h1
        injection h with h
        subst h
        obtain ⟨f1, f2, f3⟩ := fin _ _ _ h1
        rw [cellsE_enc] at f1 f2
        rw [SV.enc, Ty.av]
        exact .peekO _ _ o f1 f2 (t.cells_isD _ _) f3
      · cases h
    · rename_i id o
      split at h
      · rename_i cs ty hb
        split at h
        · rename_i e0 h1
          injection h with h
          subst h
          obtain ⟨f1, f2, f3⟩ := fin _ _ _ h1
          have hi : isBox st.blk id = true := by unfold isBox; rw [hb]
          rw [SV.enc, hi, Ty.av]
          have hbb := enc_blk hm (k := id) (by rw [hb]; simp)
          rw [hb, SB.enc] at hbb
          exact .peekBoxO (m id) o _ _ ty hbb f1 f2 (t.cells_isD _ _) f3
        · cases h
      · cases h
    · rename_i id ver k i o
      split at h
      · rename_i fr ty xs ety v hb
        cases hv : Nat.beq ver v with
        | false => rw [hv] at h; cases h
        | true =>
          rw [hv] at h
          simp only [cond_true] at h
          split at h
          · rename_i e0 h1
            injection h with h
            subst h
            obtain ⟨f1, f2, f3⟩ := fin _ _ _ h1
            rw [cellsE_enc] at f1 f2
            rw [SV.enc, rowLen_eq hb hv, Ty.av]
            have hbb := enc_blk hm (k := id) (by rw [hb]; simp)
            rw [hb, SB.enc] at hbb
            exact .peekEltO (m id) _ _ o _ _ _ _ ety hbb (rows_len _).symm (fun row hr => at_row hr) f1 f2 (t.cells_isD _ _) f3
          · cases h
      · cases h
    · cases h
theorem exG_ok (hm : MOk m nx st) : ∀ (t : Ty) (x : SV D) (e : E D t), exG st t x = some e → FrzA (st.enc m nx).heap (x.enc m st.blk) (t.av false e.den)
  | .int k, x, e, h => by
    rw [exG] at h
    unfold prjInt at h
    split at h
    · split at h
      · rename_i hk
        subst hk
        injection h with h
        subst h
        rw [SV.enc, Ty.av]; exact .int
      · cases h
    · cases h
  | .bool, x, e, h => by
    rw [exG] at h
    unfold prjBool at h
    split at h
    · injection h with h
      subst h
      rw [SV.enc, Ty.av]; exact .bool
    · cases h
  | .str, x, e, h => by
    rw [exG] at h
    unfold prjStr at h
    split at h
    · injection h with h
      subst h
      rw [SV.enc, Ty.av]; exact .str
    · cases h
  | .list t, x, e, h => by
    rw [exG] at h
    cases hf : t.flat with
    | false => rw [hf] at h; cases h
    | true =>
      rw [hf] at h
      simp only [cond_true] at h
      split at h
      · rename_i e0 h1
        injection h with h
        subst h
        rw [Ty.av]; exact frz_listV hm h1
      · cases h
  | .agg t, x, e, h => by
    rw [exG] at h
    unfold exAggA at h
    split at h
    · rename_i cs
      split at h
      · rename_i e0 h1
        injection h with h
        subst h
        rw [SV.enc, Ty.av]; exact FrzA.agg' (exFA_ok hm h1)
      · cases h
    · cases h
  | .ptr t, x, e, h => by
    rw [exG] at h
    cases hA : exPtrA st t x with
    | none =>
      rw [hA] at h
      exact exPtrO_ok hm h
    | some e' =>
    rw [hA] at h
    injection h with h
    subst h
    have h := hA
    clear hA
    unfold exPtrA at h
    split at h
    · rename_i fr t' e0 o
      cases hc : (Nat.beq o 0 && Nat.blt 0 t.size) with
      | false => rw [hc] at h; cases h
      | true =>
        rw [hc] at h
        simp only [cond_true] at h
        rw [Bool.and_eq_true] at hc
        have ho := Nat.eq_of_beq_eq_true hc.1
        subst ho
        split at h
        · rename_i ht _
          subst ht
          injection h with h
          subst h
          rw [SV.enc, Ty.av]
          have hne : ∀ fr, t'.cells fr (E.ptrI e0).den ≠ [] := by
            intro fr e1
            have := t'.cells_length fr (E.ptrI e0).den
            rw [e1] at this
            have h2 := hc.2
            rw [← this] at h2
            cases h2
          exact .peek _ _ 0 (by rw [Ty.cells_length, Ty.cells_length]) (cells_frzL fr t' _) (t'.cells_isD _ _) (hne false) (t'.cells_isD _ _)
        · cases h
    · rename_i id o
      split at h
      · rename_i cs ty hb
        cases hc : (Nat.beq o 0 && Nat.blt 0 t.size) with
        | false => rw [hc] at h; cases h
        | true =>
          rw [hc] at h
          simp only [cond_true] at h
          rw [Bool.and_eq_true] at hc
          have ho := Nat.eq_of_beq_eq_true hc.1
          subst ho
          split at h
          · rename_i e0 h1
            injection h with h
            subst h
            have hi : isBox st.blk id = true := by unfold isBox; rw [hb]
            rw [SV.enc, hi, Ty.av]
            have hbb := enc_blk hm (k := id) (by rw [hb]; simp)
            rw [hb, SB.enc] at hbb
            have hl := exFA_ok hm h1
            refine .peekBox (m id) _ _ ty hbb hl.len hl.at (t.cells_isD _ _) ?_
            intro e1
            have := t.cells_length false (E.ptrI e0).den
            rw [e1] at this
            have h2 := hc.2
            rw [← this] at h2
            cases h2
          · cases h
      · cases h
    · cases h
  | .unit, x, e, h => by rw [exG] at h; cases h; all_goals simp
  | .pair a b, x, e, h => by rw [exG] at h; cases h; all_goals simp
theorem exArgs_ok (hm : MOk m nx st) : ∀ (t : Ty) (xs : List (SV D)) (e : E D t), exArgs st t xs = some e → FrzL (st.enc m nx).heap (SV.encL m st.blk xs) (t.avs false e.den)
  | .unit, xs, e, h => by
    unfold exArgs at h
    split at h
    · rw [SV.encL, Ty.avs]
      · exact .nil
      · simp
    · cases h
  | .pair a b, xs, e, h => by
    rw [exArgs.eq_def] at h
    simp only at h
    split at h
    · rename_i c l
      split at h
      · rename_i x y h1 h2
        injection h with h
        subst h
        rw [SV.encL, Ty.avs]
        exact .cons (exG_ok hm a c x h1) (exArgs_ok hm b l y h2)
      · cases h
    · cases h
  | .int k, xs, e, h => by rw [exArgs.eq_def] at h; cases h
  | .bool, xs, e, h => by rw [exArgs.eq_def] at h; cases h
  | .str, xs, e, h => by rw [exArgs.eq_def] at h; cases h
  | .list t, xs, e, h => by rw [exArgs.eq_def] at h; cases h
  | .agg t, xs, e, h => by rw [exArgs.eq_def] at h; cases h
  | .ptr t, xs, e, h => by rw [exArgs.eq_def] at h; cases h
end
/-! ### Results as data -/
section
variable {V : Ty → Type}
def isOslS (x : SV V) : Bool := match x with
  | .osl .. => true
  | _ => false
def resL0 (st : SSt V) (t : Ty) (x : SV V) : Option (E V (.list t)) := bif t.flat then (match srcS st t x with
  | some (true, e) => some e
  | some (false, e) => bif t.noL && isOslS x then some e else none
  | none => none) else none
def resL1 (st : SSt V) (t : Ty) (x : SV V) : Option (E V (.list t)) := match x with
  | .vsl id ver lo hi => bif t.flat then (match st.blk id with
    | .row fr t' xs _ v => bif Nat.beq ver v && (fr || t.noL) then (match Ty.eqd t' t with
      | some ⟨h⟩ => some (.sub (h ▸ xs) lo hi)
      | none => none) else none
    | _ => none) else none
  | x => resL0 st t x
def exR (st : SSt V) : (t : Ty) → List (SV V) → Option (E V t × List (SV V))
  | .int k, l => match l with
    | .int k' e :: l => if h : k' = k then some (h ▸ e, l) else none
    | _ => none
  | .bool, l => match l with
    | .bool e :: l => some (e, l)
    | _ => none
  | .str, l => match l with
    | .str e :: l => some (e, l)
    | _ => none
  | .list t, l => match l with
    | c :: l => match resL1 st t c with
      | some e => some (e, l)
      | none => none
    | [] => none
  | .unit, l => some (.uni, l)
  | .pair a b, l => match exR st a l with
    | some (x, l') => match exR st b l' with
      | some (y, l'') => some (.pair x y, l'')
      | none => none
    | none => none
  | .agg t, l => match exR st t l with
    | some (x, l') => some (.aggI x, l')
    | none => none
  | .ptr _, _ => none
def exRA (st : SSt V) (t : Ty) (l : List (SV V)) : Option (E V t) := match exR st t l with
  | some (x, []) => some x
  | _ => none
def exRAgg (st : SSt V) (t : Ty) (x : SV V) : Option (E V (.agg t)) := match x with
  | .agg cs => match exRA st t cs with
    | some e => some (.aggI e)
    | none => none
  | _ => none
def exRG (st : SSt V) : (t : Ty) → SV V → Option (E V t)
  | .int k, x => prjInt k x
  | .bool, x => prjBool x
  | .str, x => prjStr x
  | .list t, x => resL1 st t x
  | .agg t, x => exRAgg st t x
  | _, _ => none
def exRs (st : SSt V) : (t : Ty) → List (SV V) → Option (E V t)
  | .unit, l => match l with
    | [] => some .uni
    | _ => none
  | .pair a b, l => match l with
    | c :: l => match exRG st a c, exRs st b l with
      | some x, some y => some (.pair x y)
      | _, _ => none
    | [] => none
  | _, _ => none
end
section
variable {m : Nat → Nat} {nx : Nat} {st : SSt D}
theorem cells_frzR {hp : List (Nat × AB)} : ∀ (t : Ty) (x : t.den), t.flat = true → ∀ a ∈ t.cells true x, FrzR hp a a
  | .int k, x, _, a, ha => by rw [Ty.cells] at ha; simp at ha; subst ha; exact .dat _ rfl (fun _ _ _ => by simp)
  | .bool, x, _, a, ha => by rw [Ty.cells] at ha; simp at ha; subst ha; exact .dat _ rfl (fun _ _ _ => by simp)
  | .str, x, _, a, ha => by rw [Ty.cells] at ha; simp at ha; subst ha; exact .dat _ rfl (fun _ _ _ => by simp)
  | .list t, xs, hf, a, ha => by
    rw [Ty.cells] at ha
    rw [List.mem_singleton] at ha
    subst ha
    refine .ro _ _ (fun row hr b hb => ?_) (fun row hr b hb => ?_)
    · obtain ⟨y, _, rfl⟩ := List.mem_map.1 hr
      exact cells_frzR t y (by rw [Ty.flat] at hf; exact hf) b hb
    · obtain ⟨y, _, rfl⟩ := List.mem_map.1 hr
      exact t.cells_isD true y b hb
  | .unit, x, _, a, ha => by rw [Ty.cells] at ha; cases ha
  | .pair c d, x, hf, a, ha => by
    rw [Ty.flat, Bool.and_eq_true] at hf
    rw [Ty.cells] at ha
    rcases List.mem_append.1 ha with ha | ha
    · exact cells_frzR c x.1 hf.1 a ha
    · exact cells_frzR d x.2 hf.2 a ha
  | .agg t, x, hf, a, ha => by rw [Ty.cells] at ha; exact cells_frzR t x (by rw [Ty.flat] at hf; exact hf) a ha
  | .ptr t, x, hf, a, ha => by rw [Ty.flat] at hf; cases hf
theorem resL0_ok {rt : Ty} {x : SV D} {ys : E D (.list rt)} (hm : MOk m nx st) (h : resL0 st rt x = some ys) : FrzR (st.enc m nx).heap (x.enc m st.blk) (.ro true rt.size ((ys.den : List rt.den).map (rt.cells true))) := by
  unfold resL0 at h
  cases hf : rt.flat with
  | false => rw [hf] at h; cases h
  | true =>
    rw [hf] at h
    simp only [cond_true] at h
    have hrow : ∀ (zs : List rt.den), (∀ row ∈ zs.map (rt.cells true), ∀ a ∈ row, FrzR (st.enc m nx).heap a a) ∧ (∀ row ∈ zs.map (rt.cells true), ∀ a ∈ row, isD a = true) := by
      intro zs
      refine ⟨fun row hr b hb => ?_, fun row hr b hb => ?_⟩
      · obtain ⟨y, _, rfl⟩ := List.mem_map.1 hr
        exact cells_frzR rt y hf b hb
      · obtain ⟨y, _, rfl⟩ := List.mem_map.1 hr
        exact rt.cells_isD true y b hb
    split at h
    · rename_i e h1
      injection h with h
      subst h
      unfold srcS at h1
      split at h1
      · rename_i fr' t' xs
        split at h1
        · rename_i ht _
          subst ht
          simp only [Option.some.injEq, Prod.mk.injEq] at h1
          obtain ⟨rfl, rfl⟩ := h1
          rw [SV.enc]
          exact .ro _ _ (hrow _).1 (hrow _).2
        · cases h1
      · rename_i id ver
        split at h1
        · rename_i fr' t' xs e v hb
          cases hv : Nat.beq ver v with
          | false => rw [hv] at h1; cases h1
          | true =>
            rw [hv] at h1
            simp only [cond_true] at h1
            split at h1
            · rename_i ht _
              subst ht
              simp only [Option.some.injEq, Prod.mk.injEq] at h1
              obtain ⟨rfl, rfl⟩ := h1
              rw [SV.enc, rowLen_eq hb hv]
              have hbb := enc_blk hm (k := id) (by rw [hb]; simp)
              rw [hb, SB.enc] at hbb
              exact .osl _ _ _ _ _ hbb (rows_len _).symm (hrow _).1 (hrow _).2
            · cases h1
        · cases h1
      · simp only [Option.some.injEq, Prod.mk.injEq] at h1
        obtain ⟨_, rfl⟩ := h1
        rw [SV.enc]
        exact .nilro _
      · cases h1
    · rename_i e h1
      cases hn : rt.noL with
      | false => rw [hn] at h; cases h
      | true =>
        rw [hn] at h
        cases hx : isOslS x with
        | false => rw [hx] at h; cases h
        | true =>
          rw [hx] at h
          injection h with h
          subst h
          unfold isOslS at hx
          split at hx
          · rename_i id ver
            unfold srcS at h1
            split at h1
            · rename_i hq; cases hq
            · rename_i id' ver' hq
              injection hq with e1 e2
              subst e1; subst e2
              split at h1
              · rename_i fr' t' xs e v hb
                cases hv : Nat.beq ver v with
                | false => rw [hv] at h1; cases h1
                | true =>
                  rw [hv] at h1
                  simp only [cond_true] at h1
                  split at h1
                  · rename_i ht _
                    subst ht
                    simp only [Option.some.injEq, Prod.mk.injEq] at h1
                    obtain ⟨rfl, rfl⟩ := h1
                    rw [SV.enc, rowLen_eq hb hv]
                    have hbb := enc_blk hm (k := id) (by rw [hb]; simp)
                    rw [hb, SB.enc, rows_noL false true _ _ hn] at hbb
                    exact .osl _ _ _ _ _ hbb (rows_len _).symm (hrow _).1 (hrow _).2
                  · cases h1
              · cases h1
            · rename_i hq; cases hq
            · rename_i q1 q2 q3; exact absurd rfl (q2 _ _)
          · cases hx
    · cases h
theorem resL1_ok {rt : Ty} {x : SV D} {ys : E D (.list rt)} (hm : MOk m nx st) (h : resL1 st rt x = some ys) : FrzR (st.enc m nx).heap (x.enc m st.blk) (.ro true rt.size ((ys.den : List rt.den).map (rt.cells true))) := by
  unfold resL1 at h
  split at h
  · rename_i id ver lo hi
    cases hf : rt.flat with
    | false => rw [hf] at h; cases h
    | true =>
      rw [hf] at h
      simp only [cond_true] at h
      split at h
      · rename_i fr t' xs e v hb
        cases hv : (Nat.beq ver v && (fr || rt.noL)) with
        | false => rw [hv] at h; cases h
        | true =>
          rw [hv] at h
          simp only [cond_true] at h
          rw [Bool.and_eq_true] at hv
          split at h
          · rename_i ht _
            subst ht
            injection h with h
            subst h
            rw [SV.enc, rowLen_eq hb hv.1]
            have hbb := enc_blk hm (k := id) (by rw [hb]; simp)
            have hrows : (xs.den : List t'.den).map (t'.cells fr) = (xs.den : List t'.den).map (t'.cells true) := by
              cases fr with
              | true => rfl
              | false => exact rows_noL false true t' _ (by simpa using hv.2)
            rw [hb, SB.enc, hrows] at hbb
            refine .vsl _ _ _ _ _ _ _ _ hbb (rows_len _).symm ?_ (fun row hr b hb => ?_) (fun row hr b hb => ?_)
            · rw [← List.map_drop, ← List.map_take, ← List.drop_take]; rfl
            · obtain ⟨y, _, rfl⟩ := List.mem_map.1 hr
              exact cells_frzR t' y hf b hb
            · obtain ⟨y, _, rfl⟩ := List.mem_map.1 hr
              exact t'.cells_isD true y b hb
          · cases h
      · cases h
  · exact resL0_ok hm h
inductive FrzRL (hp : List (Nat × AB)) : List AV → List AV → Prop
  | nil : FrzRL hp [] []
  | cons {a b : AV} {l m : List AV} (h : FrzR hp a b) (t : FrzRL hp l m) : FrzRL hp (a :: l) (b :: m)
theorem FrzRL.len {hp : List (Nat × AB)} {l m : List AV} (h : FrzRL hp l m) : l.length = m.length := by
  induction h with
  | nil => rfl
  | cons _ _ ih => simp [ih]
theorem FrzRL.at {hp : List (Nat × AB)} {l m : List AV} (h : FrzRL hp l m) : ∀ (i : Nat) (a b : AV), l[i]? = some a → m[i]? = some b → FrzR hp a b := by
  induction h with
  | nil => intro i a b h; simp at h
  | cons h _ ih =>
    intro i a b h1 h2
    cases i with
    | zero => simp at h1 h2; subst h1; subst h2; exact h
    | succ i => exact ih i a b (by simpa using h1) (by simpa using h2)
theorem FrzRL.append {hp : List (Nat × AB)} {a b c d : List AV} (h : FrzRL hp a b) (k : FrzRL hp c d) : FrzRL hp (a ++ c) (b ++ d) := by
  induction h with
  | nil => exact k
  | cons h _ ih => exact .cons h ih
theorem exR_ok (hm : MOk m nx st) : ∀ (t : Ty) (cs : List (SV D)) (e : E D t) (rest : List (SV D)), exR st t cs = some (e, rest) → ∃ pre, cs = pre ++ rest ∧ FrzRL (st.enc m nx).heap (SV.encL m st.blk pre) (t.cells true e.den)
  | .int k, cs, e, rest, h => by
    unfold exR at h
    split at h
    · rename_i k' e0 l
      split at h
      · rename_i hk
        subst hk
        simp only [Option.some.injEq, Prod.mk.injEq] at h
        obtain ⟨rfl, rfl⟩ := h
        exact ⟨[.int k' e0], rfl, by rw [SV.encL, SV.encL, SV.enc, Ty.cells]; exact .cons (.int rfl) .nil⟩
      · cases h
    · cases h
  | .bool, cs, e, rest, h => by
    unfold exR at h
    split at h
    · rename_i e0 l
      simp only [Option.some.injEq, Prod.mk.injEq] at h
      obtain ⟨rfl, rfl⟩ := h
      exact ⟨[.bool e0], rfl, by rw [SV.encL, SV.encL, SV.enc, Ty.cells]; exact .cons (.bool rfl) .nil⟩
    · cases h
  | .str, cs, e, rest, h => by
    unfold exR at h
    split at h
    · rename_i e0 l
      simp only [Option.some.injEq, Prod.mk.injEq] at h
      obtain ⟨rfl, rfl⟩ := h
      exact ⟨[.str e0], rfl, by rw [SV.encL, SV.encL, SV.enc, Ty.cells]; exact .cons (.dat _ rfl (fun _ _ _ => by simp)) .nil⟩
    · cases h
  | .list t, cs, e, rest, h => by
    unfold exR at h
    split at h
    · rename_i c l
      split at h
      · rename_i e0 h1
        simp only [Option.some.injEq, Prod.mk.injEq] at h
        obtain ⟨rfl, rfl⟩ := h
        exact ⟨[c], rfl, by rw [SV.encL, SV.encL, Ty.cells]; exact .cons (resL1_ok hm h1) .nil⟩
      · cases h
    · cases h
  | .unit, cs, e, rest, h => by
    rw [exR] at h
    simp only [Option.some.injEq, Prod.mk.injEq] at h
    obtain ⟨rfl, rfl⟩ := h
    exact ⟨[], rfl, by rw [SV.encL, Ty.cells]; exact .nil⟩
  | .pair a b, cs, e, rest, h => by
    rw [exR] at h
    split at h
    · rename_i x l' h1
      split at h
      · rename_i y l'' h2
        simp only [Option.some.injEq, Prod.mk.injEq] at h
        obtain ⟨rfl, rfl⟩ := h
        obtain ⟨p1, e1, g1⟩ := exR_ok hm a cs x l' h1
        obtain ⟨p2, e2, g2⟩ := exR_ok hm b l' y l'' h2
        refine ⟨p1 ++ p2, by rw [e1, e2, List.append_assoc], ?_⟩
        rw [encL_map, List.map_append, ← encL_map, ← encL_map, Ty.cells]
        exact g1.append g2
      · cases h
    · cases h
  | .agg t, cs, e, rest, h => by
    rw [exR] at h
    split at h
    · rename_i x l' h1
      simp only [Option.some.injEq, Prod.mk.injEq] at h
      obtain ⟨rfl, rfl⟩ := h
      obtain ⟨p1, e1, g1⟩ := exR_ok hm t cs x l' h1
      exact ⟨p1, e1, by rw [Ty.cells]; exact g1⟩
    · cases h
  | .ptr t, cs, e, rest, h => by rw [exR] at h; cases h
theorem exRG_ok (hm : MOk m nx st) : ∀ (t : Ty) (x : SV D) (e : E D t), exRG st t x = some e → FrzR (st.enc m nx).heap (x.enc m st.blk) (t.av true e.den)
  | .int k, x, e, h => by
    rw [exRG] at h
    unfold prjInt at h
    split at h
    · split at h
      · rename_i hk
        subst hk
        injection h with h
        subst h
        rw [SV.enc, Ty.av]; exact .int rfl
      · cases h
    · cases h
  | .bool, x, e, h => by
    rw [exRG] at h
    unfold prjBool at h
    split at h
    · injection h with h
      subst h
      rw [SV.enc, Ty.av]; exact .bool rfl
    · cases h
  | .str, x, e, h => by
    rw [exRG] at h
    unfold prjStr at h
    split at h
    · injection h with h
      subst h
      rw [SV.enc, Ty.av]; exact .dat _ rfl (fun _ _ _ => by simp)
    · cases h
  | .list t, x, e, h => by
    rw [exRG] at h
    rw [Ty.av]; exact resL1_ok hm h
  | .agg t, x, e, h => by
    rw [exRG] at h
    unfold exRAgg at h
    split at h
    · rename_i cs
      split at h
      · rename_i e0 h1
        injection h with h
        subst h
        unfold exRA at h1
        split at h1
        · rename_i x h2
          injection h1 with h1
          subst h1
          obtain ⟨pre, e1, g⟩ := exR_ok hm t cs x [] h2
          rw [List.append_nil] at e1
          subst e1
          rw [SV.enc, Ty.av]
          exact .agg _ _ g.len g.at
        · cases h1
      · cases h
    · cases h
  | .unit, x, e, h => by rw [exRG] at h; cases h; all_goals simp
  | .ptr _, x, e, h => by rw [exRG] at h; cases h; all_goals simp
  | .pair a b, x, e, h => by rw [exRG] at h; cases h; all_goals simp
theorem exRs_ok (hm : MOk m nx st) : ∀ (t : Ty) (xs : List (SV D)) (e : E D t), exRs st t xs = some e → FrzRL (st.enc m nx).heap (SV.encL m st.blk xs) (t.avs true e.den)
  | .unit, xs, e, h => by
    unfold exRs at h
    split at h
    · rw [SV.encL, Ty.avs]
      · exact .nil
      · simp
    · cases h
  | .pair a b, xs, e, h => by
    rw [exRs.eq_def] at h
    simp only at h
    split at h
    · rename_i c l
      split at h
      · rename_i x y h1 h2
        injection h with h
        subst h
        rw [SV.encL, Ty.avs]
        exact .cons (exRG_ok hm a c x h1) (exRs_ok hm b l y h2)
      · cases h
    · cases h
  | .int k, xs, e, h => by rw [exRs.eq_def] at h; cases h
  | .bool, xs, e, h => by rw [exRs.eq_def] at h; cases h
  | .str, xs, e, h => by rw [exRs.eq_def] at h; cases h
  | .list t, xs, e, h => by rw [exRs.eq_def] at h; cases h
  | .agg t, xs, e, h => by rw [exRs.eq_def] at h; cases h
  | .ptr t, xs, e, h => by rw [exRs.eq_def] at h; cases h
theorem exRs_one (hm : MOk m nx st) {t : Ty} {xs : List (SV D)} {e : E D t} (h : exRs st t xs = some e) : FrzR (st.enc m nx).heap (oneOf (SV.encL m st.blk xs)) (oneOf (t.avs true e.den)) := by
  have k := exRs_ok hm t xs e h
  generalize SV.encL m st.blk xs = l at k
  generalize t.avs true e.den = r at k
  cases k with
  | nil => exact .tup _ _ rfl (fun i a b h => by simp at h)
  | cons h1 t1 =>
    cases t1 with
    | nil => exact h1
    | cons h2 t2 => exact .tup _ _ (FrzRL.cons h1 (.cons h2 t2)).len (FrzRL.cons h1 (.cons h2 t2)).at
end
end Go.Proofs.Ytedjnjgnadbkaaa
