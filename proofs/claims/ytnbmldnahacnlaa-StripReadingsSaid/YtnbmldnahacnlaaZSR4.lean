/- Decompiling: regions that draw their order, over terms. No program in sight. -/
import Derived.Test.YtnbmldnahacnlaaZSR3
import Derived.Test.YtnbmldnahacnlaaProg
import Derived.Below
import Derived.WalkKit
import Derived.WalkSpells
/- Decompiling: regions that draw their order, over terms. No program in sight. -/
namespace Go.Proofs.Ytnbmldnahacnlaa
open Go Go.RowKit

section
variable {V W : Ty → Type} {ρ : Ty}
/-- blocks that an operation may name -/
def visV (T : List (List Nat)) (b0 i : Nat) (cr : List (Nat × Nat)) (k : Nat) : Bool := Nat.blt k b0 || cr.any fun c => Nat.beq c.2 k && hasN (T.getD i []) c.1
def visS (T : List (List Nat)) (ws : List (Nat × Nat)) (b0 i : Nat) (cr : List (Nat × Nat)) (k : Nat) : Bool := visV T b0 i cr k && Dr.okW T ws i k
def lclS (ops : Array Oper) (T : List (List Nat)) (ws : List (Nat × Nat)) (b0 i : Nat) (cr : List (Nat × Nat)) (st : SSt V) (o : Oper) : SSt V :=
  ⟨(o.looksAt ops).map fun t => (t, st.get t), [], (st.heap ++ st.hk).filter fun p => visS T ws b0 i cr p.1, [], [], st.nx⟩
def callR (C : DC) (lst : SSt V) (K : SV V → G V W ρ) : Op → G V W ρ
  | .call ⟨.value cal, args, _⟩ => match lst.ev cal with
    | .fn F caps => match lk C.cas F with
      | some _ => match lk C.ctrs F with
        | some c => match exArgs lst c.a (evS lst args.toList ++ caps) with
          | some e => .call c.f c.nm e fun y => K (oneOfS (svsE true c.r (.var y)))
          | none => .fail
        | none => .fail
      | none => .fail
    | _ => .fail
  | _ => .fail
/-- the operations that make a block -/
def isNew : Op → Bool
  | .alloc _ => true
  | .box _ _ => true
  | .makeSlice .. => true
  | .buildSlice .. => true
  | _ => false
def newR (C : DC) (T : List (List Nat)) (ws : List (Nat × Nat)) (b0 i : Nat) (cr : List (Nat × Nat)) (lst st : SSt V) (o : Oper) (K : List (Nat × Nat) → SSt V → G V W ρ) : G V W ρ := match mem0 C.T lst o.dst o.op with
  | some (.new b row, g) => bif Dr.noW ws i && Dr.newW T ws i st.nx && b.refs (fun k => visS T ws b0 i cr k && !Nat.beq k st.nx) (fun k _ => visS T ws b0 i cr k && !Nat.beq k st.nx) && st.refs (fun id => !Nat.beq id st.nx) (fun id _ => !Nat.beq id st.nx) then grdG g (K ((i, st.nx) :: cr) (MR.app st o.dst (.new b row))) else .fail
  | _ => .fail
/-- a write into a box -/
def storeB (T : Tab) (st : SSt V) (t : TypeId) (a v : SV V) : Option (Nat × SB V) := match lk T.inf t with
  | some (_, s, _) => bif allOneS st v.cells && Nat.beq v.cells.length s then (match a with
    | .box id o => match st.blk id with
      | .box cs e => bif Nat.ble (o + s) cs.length then some (id, .box (setRS cs o v.cells) e) else none
      | _ => none
    | _ => none) else none
  | none => none
def writeR (C : DC) (T : List (List Nat)) (ws : List (Nat × Nat)) (b0 i : Nat) (cr : List (Nat × Nat)) (st : SSt V) (o : Oper) (K : List (Nat × Nat) → SSt V → G V W ρ) : G V W ρ := match o.dst, o.op with
  | none, .store t a v => match storeB C.T st t (st.ev a) (st.ev v) with
    | some (id, b) => bif visS T ws b0 i cr id && (ws.any fun p => Nat.beq p.1 i && Nat.beq p.2 id) && Dr.onlyW ws i id && b.refs (visS T ws b0 i cr) (fun k _ => visS T ws b0 i cr k) && (st.blk id).refs (visS T ws b0 i cr) (fun k _ => visS T ws b0 i cr k) then K cr (st.hset id b) else .fail
    | none => .fail
  | _, _ => .fail
/-- one operation of a region that draws -/
def stepR' (C : DC) (T : List (List Nat)) (ws : List (Nat × Nat)) (b0 i : Nat) (cr : List (Nat × Nat)) (lst st : SSt V) (o : Oper) (K : List (Nat × Nat) → SSt V → G V W ρ) : G V W ρ := match rd C.T lst o.op with
  | some (x, g) => bif Dr.noW ws i && x.refs (visS T ws b0 i cr) (fun k _ => visS T ws b0 i cr k) then
      grdG g (bif lets o.op then letV x fun x => K cr (st.put o.dst x) else K cr (st.put o.dst x)) else .fail
  | none => bif isNew o.op then newR C T ws b0 i cr lst st o K else bif Dr.noW ws i then callR C lst (fun x => K cr (st.put o.dst x)) o.op else writeR C T ws b0 i cr st o K
def sR (C : DC) (n : Nat) (ops : Array Oper) (T : List (List Nat)) (ws : List (Nat × Nat)) (b0 : Nat) (K : SSt V → G V W ρ) : Nat → List (Nat × Nat) → List Oper → SSt V → G V W ρ
  | _, _, [], st => K st
  | i, cr, o :: l, st => bif dok o.dst n then (match wantS ops o st with
    | .yes => stepR' C T ws b0 i cr (lclS ops T ws b0 i cr st o) st o fun cr' st' => sR C n ops T ws b0 K (i + 1) cr' l st'
    | .no => bif Dr.noW ws i then sR C n ops T ws b0 K (i + 1) cr l (st.put o.dst .und) else .fail
    | .ask c d want => .ite c
        (bif want then stepR' C T ws b0 i cr (lclS ops T ws b0 i cr (st.put (some d) (.bool (.bL true))) o) (st.put (some d) (.bool (.bL true))) o fun cr' st' => sR C n ops T ws b0 K (i + 1) cr' l st'
          else bif Dr.noW ws i then sR C n ops T ws b0 K (i + 1) cr l ((st.put (some d) (.bool (.bL true))).put o.dst .und) else .fail)
        (bif want then bif Dr.noW ws i then sR C n ops T ws b0 K (i + 1) cr l ((st.put (some d) (.bool (.bL false))).put o.dst .und) else .fail
          else stepR' C T ws b0 i cr (lclS ops T ws b0 i cr (st.put (some d) (.bool (.bL false))) o) (st.put (some d) (.bool (.bL false))) o fun cr' st' => sR C n ops T ws b0 K (i + 1) cr' l st')
    | .bad => .fail) else .fail
/-- where the operations begin that lie wholly behind all before them -/
def tailN (T : List (List Nat)) : Nat → Nat
  | 0 => 0
  | i + 1 => bif (List.range i).all fun j => hasN (T.getD i []) j then tailN T i else i + 1
/-- the writes, by the blocks that they name -/
def wsD (T : Tab) : Nat → List Oper → SSt V → List (Nat × Nat)
  | _, [], _ => []
  | i, o :: l, st => match rd T st o.op with
    | some (x, _) => wsD T (i + 1) l (st.put o.dst x)
    | none => match o.op with
      | .store _ a _ => match st.ev a with
        | .box id _ => (i, id) :: wsD T (i + 1) l st
        | .elt id _ _ _ => (i, id) :: wsD T (i + 1) l st
        | _ => wsD T (i + 1) l st
      | _ => match mem0 T st o.dst o.op with
        | some (.new b row, _) => wsD T (i + 1) l (MR.app st o.dst (.new b row))
        | _ => wsD T (i + 1) l (st.put o.dst .any)
def drW (C : DC) (self : SelfG V W ρ) (an : An) (n : Nat) (l : List Oper) (st : SSt V) (ws : List (Nat × Nat)) (K : SSt V → G V W ρ) : G V W ρ :=
  bif Dr.planR l (ancs l []) && (ws.all fun p => isLive (st.blk p.2) || Nat.ble st.nx p.2) && Dr.tailR l (ancs l []) (tailN (ancs l []) l.length) then
    sR C n ⟨l⟩ (ancs l []) ws st.nx (fun st' => sL C self n ⟨l⟩ an (tailN (ancs l []) l.length) (l.drop (tailN (ancs l []) l.length)) st' K) 0 [] (l.take (tailN (ancs l []) l.length)) st else .fail
def drR (C : DC) : DrawG V W ρ := fun self an n l st K => drW C self an n l st (wsD C.T 0 (l.take (tailN (ancs l []) l.length)) st) K
end
/-! ### Local states -/
theorem sv_refs_all (x : SV D) : x.refs (fun _ => true) (fun _ _ => true) = true := by
  have := refs_all (⟨[(0, x)], [], [], [], [], 0⟩ : SSt D)
  unfold SSt.refs at this
  simp only [refsR, Bool.and_eq_true] at this
  exact this.1.1
theorem svL_refs_all (l : List (SV D)) : SV.refsL (fun _ => true) (fun _ _ => true) l = true := by
  induction l with
  | nil => rw [SV.refsL]
  | cons c l ih => rw [SV.refsL, sv_refs_all, ih]; rfl
theorem sb_refs_all (b : SB D) : b.refs (fun _ => true) (fun _ _ => true) = true := by
  cases b with
  | box cs e => exact svL_refs_all cs
  | _ => rfl
section
variable {m : Nat → Nat} {H : Nat → SB D} {q : Nat → Bool} {pB : Nat → Bool} {pR : Nat → Nat → Bool}
mutual
theorem enc_nmd (hB : ∀ id, pB id = true → isBox H id = true → q (m id) = true) (hR : ∀ id v n, pR id v = true → rowLen H id v = some n → q (m id) = true) : ∀ (x : SV D), x.refs pB pR = true → (x.enc m H).nmd q = true
  | .any, _ => by rw [SV.enc]; rfl
  | .und, _ => by rw [SV.enc]; rfl
  | .int .., _ => by rw [SV.enc]; rfl
  | .bool .., _ => by rw [SV.enc]; rfl
  | .str .., _ => by rw [SV.enc]; rfl
  | .nilp, _ => by rw [SV.enc]; rfl
  | .nils, _ => by rw [SV.enc]; rfl
  | .nilf, _ => by rw [SV.enc]; rfl
  | .pk .., _ => by rw [SV.enc]; rfl
  | .ro .., _ => by rw [SV.enc]; rfl
  | .box id off, h => by
    rw [SV.refs] at h
    rw [SV.enc]
    cases hb : isBox H id with
    | true => exact hB id h hb
    | false => rfl
  | .elt id ver i off, h => by
    rw [SV.refs] at h
    rw [SV.enc]
    cases hb : rowLen H id ver with
    | some n => exact hR id ver n h hb
    | none => rfl
  | .osl id ver, h => by
    rw [SV.refs] at h
    rw [SV.enc]
    cases hb : rowLen H id ver with
    | some n => exact hR id ver n h hb
    | none => rfl
  | .agg cs, h => by
    rw [SV.refs] at h
    rw [SV.enc]
    exact encL_nmd hB hR cs h
  | .tup cs, h => by
    rw [SV.refs] at h
    rw [SV.enc]
    exact encL_nmd hB hR cs h
  | .fn f cs, h => by
    rw [SV.refs] at h
    rw [SV.enc]
    exact encL_nmd hB hR cs h
theorem encL_nmd (hB : ∀ id, pB id = true → isBox H id = true → q (m id) = true) (hR : ∀ id v n, pR id v = true → rowLen H id v = some n → q (m id) = true) : ∀ (l : List (SV D)), SV.refsL pB pR l = true → AV.nmd.go q (SV.encL m H l) = true
  | [], _ => by rw [SV.encL]; rfl
  | c :: l, h => by
    rw [SV.refsL, Bool.and_eq_true] at h
    rw [SV.encL, AV.nmd.go, enc_nmd hB hR c h.1, encL_nmd hB hR l h.2]; rfl
end
theorem cells_nmd {fr : Bool} : ∀ (t : Ty) (e : E D t), SV.refsL pB pR (cellsE fr t e) = true := by
  intro t
  induction t with
  | pair a b iha ihb =>
    intro e
    rw [cellsE]
    have key : ∀ (l r : List (SV D)), SV.refsL pB pR l = true → SV.refsL pB pR r = true → SV.refsL pB pR (l ++ r) = true := by
      intro l r hl hr
      induction l with
      | nil => exact hr
      | cons c l ih =>
        rw [SV.refsL, Bool.and_eq_true] at hl
        rw [List.cons_append, SV.refsL, hl.1, ih hl.2]; rfl
    exact key _ _ (iha _) (ihb _)
  | agg t ih => intro e; rw [cellsE]; exact ih _
  | unit => intro e; rw [cellsE, SV.refsL]
  | int k => intro e; rw [cellsE, SV.refsL, SV.refsL]; rw [SV.refs] <;> simp
  | bool => intro e; rw [cellsE, SV.refsL, SV.refsL]; rw [SV.refs] <;> simp
  | str => intro e; rw [cellsE, SV.refsL, SV.refsL]; rw [SV.refs] <;> simp
  | list t _ => intro e; rw [cellsE, SV.refsL, SV.refsL]; rw [SV.refs] <;> simp
  | ptr t _ => intro e; rw [cellsE, SV.refsL, SV.refsL]; rw [SV.refs] <;> simp
theorem data_nmd {t : Ty} {fr : Bool} : ∀ (e : E D t), SV.refs pB pR (svE fr t e) = true := by
  intro e
  cases t with
  | agg t => rw [svE, SV.refs]; exact cells_nmd _ _
  | _ => rw [svE, SV.refs] <;> simp
theorem datas_nmd {fr : Bool} : ∀ (t : Ty) (e : E D t), SV.refsL pB pR (svsE fr t e) = true
  | .pair a b, e => by rw [svsE, SV.refsL, data_nmd, datas_nmd b]; rfl
  | .int _, _ => by rw [svsE, SV.refsL]; all_goals simp
  | .bool, _ => by rw [svsE, SV.refsL]; all_goals simp
  | .str, _ => by rw [svsE, SV.refsL]; all_goals simp
  | .list _, _ => by rw [svsE, SV.refsL]; all_goals simp
  | .unit, _ => by rw [svsE, SV.refsL]; all_goals simp
  | .agg _, _ => by rw [svsE, SV.refsL]; all_goals simp
  | .ptr _, _ => by rw [svsE, SV.refsL]; all_goals simp
theorem one_nmd {l : List (SV D)} (h : SV.refsL pB pR l = true) : (oneOfS l).refs pB pR = true := by
  unfold oneOfS
  split
  · rw [SV.refsL, Bool.and_eq_true] at h; exact h.1
  · rw [SV.refs]; exact h
end
/-- how a region's numbers are laid out -/
structure Lay (m : Nat → Nat) (nx0 b0 : Nat) (st0 : SSt D) : Prop where
  new : ∀ k, b0 ≤ k → m k = nx0 + (k - b0)
  old : ∀ k, k < b0 → st0.blk k ≠ .dead → m k < nx0
  inj : ∀ k k', st0.blk k ≠ .dead → st0.blk k' ≠ .dead → m k = m k' → k = k'
  lt : ∀ k, st0.blk k ≠ .dead → k < b0
def Good (b0 : Nat) (st0 : SSt D) (k : Nat) : Prop := b0 ≤ k ∨ st0.blk k ≠ .dead
section
variable {m : Nat → Nat} {nx0 b0 : Nat} {st0 : SSt D}
theorem Lay.injG (h : Lay m nx0 b0 st0) {k k' : Nat} (hk : Good b0 st0 k) (hk' : Good b0 st0 k') (e : m k = m k') : k = k' := by
  rcases hk with hk | hk
  · rcases hk' with hk' | hk'
    · rw [h.new k hk, h.new k' hk'] at e; omega
    · have := h.old k' (h.lt k' hk') hk'
      rw [h.new k hk] at e; omega
  · rcases hk' with hk' | hk'
    · have := h.old k (h.lt k hk) hk
      rw [h.new k' hk'] at e; omega
    · exact h.inj k k' hk hk' e
def mapP (m : Nat → Nat) (l : List (Nat × Nat)) : List (Nat × Nat) := l.map fun p => (p.1, m p.2)
theorem beq_m (h : Lay m nx0 b0 st0) {k k' : Nat} (hk : Good b0 st0 k) (hk' : Good b0 st0 k') : Nat.beq (m k) (m k') = Nat.beq k k' := by
  cases hb : Nat.beq k k' with
  | true =>
    have := Nat.eq_of_beq_eq_true hb
    subst this
    exact Nat.beq_refl _
  | false =>
    rw [← Bool.not_eq_true]
    intro e
    have := h.injG hk hk' (Nat.eq_of_beq_eq_true e)
    subst this
    rw [Nat.beq_refl] at hb; cases hb
variable {T : List (List Nat)} {ws cr : List (Nat × Nat)} {i : Nat}
theorem okW_m (h : Lay m nx0 b0 st0) (hw : ∀ p ∈ ws, Good b0 st0 p.2) {k : Nat} (hk : Good b0 st0 k) : Dr.okW T (mapP m ws) i (m k) = Dr.okW T ws i k := by
  unfold Dr.okW mapP
  induction ws with
  | nil => rfl
  | cons p l ih =>
    rw [List.map_cons, List.all_cons, List.all_cons, ih (fun p hp => hw p (List.mem_cons_of_mem _ hp)), beq_m h (hw p (by simp)) hk]
theorem vis_m (h : Lay m nx0 b0 st0) (hc : ∀ p ∈ cr, b0 ≤ p.2) {k : Nat} (hk : Good b0 st0 k) : vis T nx0 i (mapP m cr) (m k) = visV T b0 i cr k := by
  unfold vis visV mapP
  have e1 : Nat.blt (m k) nx0 = Nat.blt k b0 := by
    rw [Bool.eq_iff_iff]
    simp only [Nat.blt_eq]
    rcases hk with hk | hk
    · rw [h.new k hk]; omega
    · have := h.old k (h.lt k hk) hk
      have := h.lt k hk
      omega
  rw [e1]
  congr 1
  induction cr with
  | nil => rfl
  | cons p l ih =>
    rw [List.map_cons, List.any_cons, List.any_cons, ih (fun p hp => hc p (List.mem_cons_of_mem _ hp)), beq_m h (.inl (hc p (by simp))) hk]
theorem noW_m (ws : List (Nat × Nat)) : Dr.noW (mapP m ws) i = Dr.noW ws i := by
  unfold Dr.noW mapP
  rw [List.all_map]; rfl
end
section
variable {P : Program} {n : Nat} {m : Nat → Nat} {nx nx0 b0 : Nat} {st0 st : SSt D} {T : List (List Nat)} {ws cr : List (Nat × Nat)} {i : Nat} {ops : Array Oper} {o : Oper}
theorem lclS_get (d : Nat) : (lclS ops T ws b0 i cr st o).get d = look .any ((o.looksAt ops).map fun t => (t, st.get t)) d := rfl
theorem lclS_blk (k : Nat) : (lclS ops T ws b0 i cr st o).blk k = bif visS T ws b0 i cr k then st.blk k else .dead := by
  show look (look .dead [] k) ((st.heap ++ st.hk).filter fun p => visS T ws b0 i cr p.1) k = _
  have : (look .dead ([] : List (Nat × SB D)) k) = .dead := rfl
  rw [this, look_filt (f := fun k => visS T ws b0 i cr k), blk_look]
theorem lclS_mem : MemLe m st.blk m (lclS ops T ws b0 i cr st o).blk (fun _ => true) (fun _ _ => true) := by
  refine ⟨fun id _ => ?_, fun id v _ => ?_⟩
  · cases hv : visS T ws b0 i cr id with
    | true => right; unfold isBox; rw [lclS_blk, hv]; exact ⟨rfl, rfl⟩
    | false => left; unfold isBox; rw [lclS_blk, hv]; rfl
  · cases hv : visS T ws b0 i cr id with
    | true => right; unfold rowLen; rw [lclS_blk, hv]; exact ⟨rfl, rfl⟩
    | false => left; unfold rowLen; rw [lclS_blk, hv]; rfl
theorem lclS_mok (hm : MOk m nx st) {k : Nat} (hk : ∀ j, (lclS ops T ws b0 i cr st o).blk j ≠ .dead → m j < k) : MOk m k (lclS ops T ws b0 i cr st o) := by
  have live : ∀ j, (lclS ops T ws b0 i cr st o).blk j ≠ .dead → st.blk j ≠ .dead := by
    intro j hj
    rw [lclS_blk] at hj
    cases hv : visS T ws b0 i cr j with
    | true => rw [hv] at hj; exact hj
    | false => rw [hv] at hj; exact absurd rfl hj
  refine ⟨hk, fun j j' h1 h2 e => hm.inj j j' (live j h1) (live j' h2) e, fun p hp => ?_⟩
  have hp : p ∈ ((st.heap ++ st.hk).filter fun p => visS T ws b0 i cr p.1) ++ [] := hp
  rw [List.append_nil] at hp
  exact hm.keys p (List.mem_filter.1 hp).1
theorem lclS_les (hL : Lay m nx0 b0 st0) (hw : ∀ p ∈ ws, Good b0 st0 p.2) (hc : ∀ p ∈ cr, b0 ≤ p.2) (hg : ∀ k, st.blk k ≠ .dead → Good b0 st0 k) (hm : MOk m nx st) {k : Nat} (hk : ∀ j, (lclS ops T ws b0 i cr st o).blk j ≠ .dead → m j < k) :
    LeS ((lclS ops T ws b0 i cr st o).enc m k) (Dr.lcl ops T (mapP m ws) nx0 i (mapP m cr) (st.enc m nx) o k) := by
  refine ⟨fun d => ?_, fun q => ?_, rfl⟩
  · rw [enc_get, lclS_get]
    show Les _ (look .any ((o.looksAt ops).map fun t => (t, look .any (st.enc m nx).regs t)) d)
    by_cases hd : d ∈ o.looksAt ops
    · have key : ∀ (l : List Nat), d ∈ l → look SV.any (l.map fun t => (t, st.get t)) d = st.get d ∧ look AV.any (l.map fun t => (t, look .any (st.enc m nx).regs t)) d = look .any (st.enc m nx).regs d := by
        intro l
        induction l with
        | nil => intro h; cases h
        | cons a l ih =>
          intro h
          rw [List.map_cons, List.map_cons, look_cons, look_cons]
          by_cases e : a = d
          · subst e; rw [if_pos rfl, if_pos rfl]; exact ⟨rfl, rfl⟩
          · rw [if_neg e, if_neg e]
            exact ih ((List.mem_cons.1 h).resolve_left fun e' => e e'.symm)
      obtain ⟨e1, e2⟩ := key _ hd
      rw [e1, e2, enc_get]
      exact enc_les lclS_mem _ (sv_refs_all _)
    · rw [look_pick_in hd, SV.enc]; exact .any _
  · rcases heap_cases (lclS_mok hm hk) q with h | ⟨j, h, e⟩
    · rw [h]; exact .dead _
    · subst e
      rw [enc_blk (lclS_mok hm hk) h]
      have hv : visS T ws b0 i cr j = true := by
        cases hv : visS T ws b0 i cr j with
        | true => rfl
        | false => rw [lclS_blk, hv] at h; exact absurd rfl h
      have hlj : st.blk j ≠ .dead := by rw [lclS_blk, hv] at h; exact h
      have hgj := hg j hlj
      show LesB _ (look .dead ((st.enc m nx).heap.filter fun p => Dr.visW T (mapP m ws) nx0 i (mapP m cr) p.1) (m j))
      have hvv : Dr.visW T (mapP m ws) nx0 i (mapP m cr) (m j) = true := by
        unfold Dr.visW
        rw [vis_m hL hc hgj, okW_m hL hw hgj]
        exact hv
      rw [look_filt (f := fun id => Dr.visW T (mapP m ws) nx0 i (mapP m cr) id), hvv, enc_blk hm hlj]
      have e1 : (lclS ops T ws b0 i cr st o).blk j = st.blk j := by rw [lclS_blk, hv]; rfl
      rw [e1]
      exact encB_les lclS_mem _ (sb_refs_all _)
/-- whatever the number of the next block -/
theorem lt_of_rel {K : Kn} {a : Act} {w : World} {G : Gh} (hL : Lay m nx0 b0 st0) (hw : ∀ p ∈ ws, Good b0 st0 p.2) (hc : ∀ p ∈ cr, b0 ≤ p.2) (hg : ∀ k, st.blk k ≠ .dead → Good b0 st0 k) (hm : MOk m nx st) {k : Nat} (r : RelG K n (Dr.lcl ops T (mapP m ws) nx0 i (mapP m cr) (st.enc m nx) o k) a w G) : ∀ j, (lclS ops T ws b0 i cr st o).blk j ≠ .dead → m j < k := by
  intro j h
  have hv : visS T ws b0 i cr j = true := by
    cases hv : visS T ws b0 i cr j with
    | true => rfl
    | false => rw [lclS_blk, hv] at h; exact absurd rfl h
  have hlj : st.blk j ≠ .dead := by rw [lclS_blk, hv] at h; exact h
  have hgj := hg j hlj
  have hb := r.hr.blk (m j)
  have e1 : look .dead (Dr.lcl ops T (mapP m ws) nx0 i (mapP m cr) (st.enc m nx) o k).heap (m j) = (st.blk j).enc m st.blk := by
    show look .dead ((st.enc m nx).heap.filter fun p => Dr.visW T (mapP m ws) nx0 i (mapP m cr) p.1) (m j) = _
    have hvv : Dr.visW T (mapP m ws) nx0 i (mapP m cr) (m j) = true := by
      unfold Dr.visW
      rw [vis_m hL hc hgj, okW_m hL hw hgj]
      exact hv
    rw [look_filt (f := fun id => Dr.visW T (mapP m ws) nx0 i (mapP m cr) id), hvv, enc_blk hm hlj]; rfl
  rw [e1] at hb
  have hn : G.nx = k := r.nx
  rw [← hn]
  generalize st.blk j = b at hb hlj
  cases b with
  | dead => exact absurd rfl hlj
  | box cs e => rw [SB.enc] at hb; exact hb.1
  | row fr t xs e v => rw [SB.enc] at hb; exact hb.1
end
end Go.Proofs.Ytnbmldnahacnlaa
/- Decompiling: regions that draw their order: the machine over terms says what they do. No program in sight. -/
namespace Go.Proofs.Ytnbmldnahacnlaa
open Go Go.RowKit

theorem OpF.le {P : Program} {n : Nat} {s s' : ASt} {o : Oper} {x : AV} (h : LeS s s') (k : OpF P n o s x) : OpF P n o s' x := ⟨k.dst, fun K a w G r => k.out K a w G (r.les h)⟩
theorem gdst_looks {ops : Array Oper} {o : Oper} {d : Nat} {want : Bool} (h : gdst ops o = some (d, want)) : d ∈ o.looksAt ops := by
  unfold gdst at h
  unfold Oper.looksAt
  split at h
  · rename_i j want' hg
    rw [Option.map_eq_some_iff] at h
    obtain ⟨d', h1, h2⟩ := h
    injection h2 with h2 _
    subst h2
    rw [hg]
    simp [h1]
  · cases h
theorem lregs_get {ops : Array Oper} {o : Oper} {s : ASt} {d : Nat} (hd : d ∈ o.looksAt ops) : look .any (Dr.lregs ops s o) d = look .any s.regs d := by
  unfold Dr.lregs
  revert hd
  generalize o.looksAt ops = l
  induction l with
  | nil => intro h; cases h
  | cons a l ih =>
    intro h
    rw [List.map_cons, look_cons]
    by_cases e : a = d
    · subst e; rw [if_pos rfl]
    · rw [if_neg e]
      exact ih ((List.mem_cons.1 h).resolve_left fun e' => e e'.symm)
def nxOf (nx0 b0 : Nat) (st : SSt D) : Nat := nx0 + (st.nx - b0)
/-- what holds between the operations -/
structure RI (F : List (Nat → AV)) (m : Nat → Nat) (nx0 b0 : Nat) (st0 st : SSt D) : Prop where
  mok : MOk m (nxOf nx0 b0 st) st
  ge : b0 ≤ st.nx
  fr : FrOk m st.blk st.fr F
  fix : Fix st0 st
  good : ∀ k, st.blk k ≠ .dead → Good b0 st0 k
section
variable {P : Program} {n : Nat} {F : List (Nat → AV)} {ρ : Ty} {fu : Nat} {C : DC} {r : ρ.den}
variable {m : Nat → Nat} {nx0 b0 : Nat} {st0 st : SSt D} {T : List (List Nat)} {ws cr : List (Nat × Nat)} {i : Nat} {ops : Array Oper} {o : Oper} {l : List Oper} {Kt : ASt → Prop}
theorem RI.put (h : RI F m nx0 b0 st0 st) (d : Option Nat) (x : SV D) : RI F m nx0 b0 st0 (st.put d x) := by
  have e : nxOf nx0 b0 (st.put d x) = nxOf nx0 b0 st := by cases d <;> rfl
  refine ⟨by rw [e]; exact put_mok h.mok d x, by cases d <;> exact h.ge, by rw [put_blk]; cases d <;> exact h.fr, h.fix.trans (put_fix st d x), by rw [put_blk]; exact h.good⟩
theorem gst_yesS (h : wantS ops o st = .yes) {nx : Nat} {W cr : List (Nat × Nat)} : o.guard = none ∨ gst ops o (Dr.lcl ops T W nx0 i cr (st.enc m nx) o 0) = some true := by
  unfold wantS at h
  split at h
  · rename_i hg; exact .inl hg
  · split at h
    · cases h
    · rename_i d want hg
      right
      have e := wantV_yes (m := m) (st := st) h
      rw [← enc_get st m nx, ← lregs_get (gdst_looks hg)] at e
      unfold gst
      rw [hg]
      show (match look AV.any (Dr.lregs ops (st.enc m nx) o) d, want with
        | .bool true, true => some true
        | .bool false, false => some true
        | .bool true, false => some false
        | .bool false, true => some false
        | .und, _ => some false
        | _, _ => none) = _
      rw [e]
      cases want <;> rfl
theorem gst_noS (h : wantS ops o st = .no) {nx : Nat} {W cr : List (Nat × Nat)} : gst ops o (Dr.lcl ops T W nx0 i cr (st.enc m nx) o 0) = some false := by
  obtain ⟨d, want, hg, hb⟩ := wantS_no (m := m) (nx := nx) h
  rw [← lregs_get (gdst_looks hg)] at hb
  unfold gst
  rw [hg]
  show (match look AV.any (Dr.lregs ops (st.enc m nx) o) d, want with
    | .bool true, true => some true
    | .bool false, false => some true
    | .bool true, false => some false
    | .bool false, true => some false
    | .und, _ => some false
    | _, _ => none) = _
  rcases hb with hb | hb <;> rw [hb] <;> cases want <;> rfl
theorem gst_put {d : Nat} {want b : Bool} (hg : gdst ops o = some (d, want)) {nx : Nat} {W cr : List (Nat × Nat)} : gst ops o (Dr.lcl ops T W nx0 i cr ((st.put (some d) (.bool (.bL b))).enc m nx) o 0) = some (b == want) := by
  have e : look AV.any (Dr.lregs ops ((st.put (some d) (.bool (.bL b))).enc m nx) o) d = .bool b := by
    rw [lregs_get (gdst_looks hg), put_enc]
    show look .any ((d, SV.enc m st.blk (.bool (.bL b))) :: (st.enc m nx).regs) d = _
    rw [look_self, SV.enc]; rfl
  unfold gst
  rw [hg]
  show (match look AV.any (Dr.lregs ops ((st.put (some d) (.bool (.bL b))).enc m nx) o) d, want with
    | .bool true, true => some true
    | .bool false, false => some true
    | .bool true, false => some false
    | .bool false, true => some false
    | .und, _ => some false
    | _, _ => none) = _
  rw [e]
  cases b <;> cases want <;> rfl
theorem lclS_memS : MemLe m (lclS ops T ws b0 i cr st o).blk m st.blk (visS T ws b0 i cr) (fun k _ => visS T ws b0 i cr k) := by
  have e : ∀ k, visS T ws b0 i cr k = true → (lclS ops T ws b0 i cr st o).blk k = st.blk k := fun k hk => by rw [lclS_blk, hk]; rfl
  exact ⟨fun id h => .inr ⟨by unfold isBox; rw [e id h], rfl⟩, fun id v h => .inr ⟨by unfold rowLen; rw [e id h], rfl⟩⟩
theorem nmdS (hL : Lay m nx0 b0 st0) (hc : ∀ p ∈ cr, b0 ≤ p.2) (hI : RI F m nx0 b0 st0 st) {x : SV D} (h : x.refs (visS T ws b0 i cr) (fun k _ => visS T ws b0 i cr k) = true) : (x.enc m (lclS ops T ws b0 i cr st o).blk).nmd (vis T nx0 i (mapP m cr)) = true := by
  have key : ∀ id, visS T ws b0 i cr id = true → (lclS ops T ws b0 i cr st o).blk id ≠ .dead → vis T nx0 i (mapP m cr) (m id) = true := by
    intro id hv hb
    rw [lclS_blk, hv] at hb
    rw [vis_m hL hc (hI.good id hb)]
    unfold visS at hv
    rw [Bool.and_eq_true] at hv
    exact hv.1
  refine enc_nmd (fun id hp hb => key id hp fun e => ?_) (fun id v n hp hb => key id hp fun e => ?_) x h
  · unfold isBox at hb; rw [e] at hb; cases hb
  · unfold rowLen at hb; rw [e] at hb; cases hb
theorem liveS (hL : Lay m nx0 b0 st0) (hc : ∀ p ∈ cr, b0 ≤ p.2) (hI : RI F m nx0 b0 st0 st) {id : Nat} (hv : visS T ws b0 i cr id = true) (hb : st.blk id ≠ .dead) : vis T nx0 i (mapP m cr) (m id) = true := by
  rw [vis_m hL hc (hI.good id hb)]
  unfold visS at hv
  rw [Bool.and_eq_true] at hv
  exact hv.1
theorem nmdB (hL : Lay m nx0 b0 st0) (hc : ∀ p ∈ cr, b0 ≤ p.2) (hI : RI F m nx0 b0 st0 st) {b : SB D} (h : b.refs (visS T ws b0 i cr) (fun k _ => visS T ws b0 i cr k) = true) : (b.enc m st.blk).nmd (vis T nx0 i (mapP m cr)) = true := by
  cases b with
  | dead => rfl
  | box cs e =>
    rw [SB.refs] at h
    refine encL_nmd (fun id hp hb => liveS hL hc hI hp fun e => ?_) (fun id v n hp hb => liveS hL hc hI hp fun e => ?_) cs h
    · unfold isBox at hb; rw [e] at hb; cases hb
    · unfold rowLen at hb; rw [e] at hb; cases hb
  | row fr t xs e v =>
    show List.all _ _ = true
    refine List.all_eq_true.2 fun row hr => ?_
    obtain ⟨x, _, rfl⟩ := List.mem_map.1 hr
    have e1 : SV.encL m st.blk (cellsE fr t (.var x : E D t)) = t.cells fr x := cellsE_enc fr t (.var x)
    rw [← e1]
    exact encL_nmd (pB := fun _ => false) (pR := fun _ _ => false) (fun id h => by cases h) (fun id v n h => by cases h) _ (cells_nmd _ _)
theorem lregs_ev {s : ASt} {x : Operand} (hx : x ∈ o.op.operands.toList) {hp : List (Nat × AB)} {k : Nat} : (⟨Dr.lregs ops s o, hp, k⟩ : ASt).ev x = s.ev x := by
  cases x with
  | tmp t =>
    show look .any (Dr.lregs ops s o) t = look .any s.regs t
    refine lregs_get ?_
    unfold Oper.looksAt
    rw [List.mem_append]
    left
    rw [List.mem_filterMap]
    exact ⟨.tmp t, hx, rfl⟩
  | const v => rfl
  | global g => rfl
  | func f => rfl
theorem opWr_box {t : TypeId} {x y : Operand} {z : Option Value} {s b : Nat} {id off : Nat} {cs vs : List AV} {e : TypeId} {g : Option (Nat × Bool)} {ty : TypeId} {ps : String} {af : Array Edge} {st : ASt} (hx : st.ev x = .box id off) (hb : look .dead st.heap id = .box cs e) (hy : (st.ev y).cells = vs) (h1 : allOne vs = true) (hI : tyI P t = some (z, s, b)) (hs : vs.length = s) (hle : off + s ≤ cs.length) :
    Dr.OpWr P n ⟨none, .store t x y, ty, ps, af, g⟩ st id (.box (setR cs off vs) e) .und := ⟨rfl, fun K a w G r => by
  subst hy
  have r : RelG ⟨K.w0, w, G⟩ n st a w G := ⟨r.nx, r.hr, Ext.refl _ _, r.size, r.defers, r.regs⟩
  have e1 := r.ev x
  rw [hx] at e1
  have hcv := (r.ev y).cellsV h1
  obtain ⟨gg, us, e2, hρ, _, _, _⟩ := r.boxAt hb e1
  have hid : id < G.nx := by
    have hk := r.hr.blk id
    rw [hb] at hk
    exact hk.1
  obtain ⟨w', hrun, r2, hk2⟩ := RelG.storeBox (P := P) (e := e) hid hρ (st.ev y).cells (a.eval y).cells.toList 0 off cs w r hb (by have := hcv.size; simp; omega) (by simpa using hcv.size) (fun v hv => by
    obtain ⟨i, hi, hv⟩ := List.getElem_of_mem hv
    exact hcv.one i v (by rw [← hv]; simp)) (fun j x' v hx' hv => hcv.rel j x' v hx' (by simpa using hv))
  refine ⟨undef, w', G, .inr ⟨?_, rfl⟩, r2.hr, r2.ext, rfl, fun j hne => ⟨rfl, rfl, fun hj g hg => hk2 g fun e => ?_⟩, .dat .und⟩
  · simp [execOp, Instr.storeAt, e2, Instr.sureAddr, run_storeVar' hI (show (a.eval y).cells.size = s by rw [hcv.size, hs]), hrun]
  · subst e
    exact r.hr.dist j id g hj hid hne hg (by rw [hρ]; rfl)⟩
theorem onlyW_m {id : Nat} (h : Dr.onlyW ws i id = true) : Dr.onlyW (mapP m ws) i (m id) = true := by
  unfold Dr.onlyW mapP at *
  rw [List.all_map]
  refine List.all_eq_true.2 fun p hp => ?_
  have := List.all_eq_true.1 h p hp
  show (bif Nat.beq p.1 i then Nat.beq (m p.2) (m id) else true) = true
  cases hb : Nat.beq p.1 i with
  | false => rfl
  | true =>
    rw [hb] at this
    have := Nat.eq_of_beq_eq_true this
    rw [this]
    exact Nat.beq_refl _
theorem storeB_ok {Tb : Tab} {t : TypeId} {a v : SV D} {id : Nat} {b : SB D} (h : storeB Tb st t a v = some (id, b)) : ∃ Z s bb off cs e, lk Tb.inf t = some (Z, s, bb) ∧ allOneS st v.cells = true ∧ v.cells.length = s ∧ a = .box id off ∧ st.blk id = .box cs e ∧ off + s ≤ cs.length ∧ b = .box (setRS cs off v.cells) e := by
  unfold storeB at h
  split at h
  · rename_i Z s bb hI
    cases hc : (allOneS st v.cells && Nat.beq v.cells.length s) with
    | false => rw [hc] at h; cases h
    | true =>
      rw [hc] at h
      simp only [cond_true] at h
      rw [Bool.and_eq_true] at hc
      split at h
      · rename_i id' off
        split at h
        · rename_i cs e hb
          cases hl : Nat.ble (off + s) cs.length with
          | false => rw [hl] at h; cases h
          | true =>
            rw [hl] at h
            simp only [cond_true, Option.some.injEq, Prod.mk.injEq] at h
            obtain ⟨rfl, rfl⟩ := h
            exact ⟨Z, s, bb, off, cs, e, hI, hc.1, Nat.eq_of_beq_eq_true hc.2, rfl, hb, Nat.le_of_ble_eq_true hl, rfl⟩
        · cases h
      · cases h
  · cases h
abbrev AGm (P : Program) (n : Nat) (ops : Array Oper) (T : List (List Nat)) (ws : List (Nat × Nat)) (nx0 b0 : Nat) (m : Nat → Nat) (Kt : ASt → Prop) (i : Nat) (cr : List (Nat × Nat)) (l : List Oper) (st : SSt D) : Prop :=
  Dr.AG P n ops T (mapP m ws) nx0 Kt i (mapP m cr) l (st.enc m (nxOf nx0 b0 st))
theorem AGm.put {d : Option Nat} {x : SV D} {y : AV} (hx : Les (x.enc m st.blk) y) (k : AGm P n ops T ws nx0 b0 m Kt i cr l (st.put d x)) : Dr.AG P n ops T (mapP m ws) nx0 Kt i (mapP m cr) l ((st.enc m (nxOf nx0 b0 st)).put d y) := by
  have e : nxOf nx0 b0 (st.put d x) = nxOf nx0 b0 st := by cases d <;> rfl
  refine .le ?_ k
  rw [e, put_enc]
  exact (LeS.refl _).put hx
theorem skipR_ok (hd : dok o.dst n = true) (hW : Dr.noW ws i = true) (hg : gst ops o (Dr.lcl ops T (mapP m ws) nx0 i (mapP m cr) (st.enc m (nxOf nx0 b0 st)) o 0) = some false) (k : AGm P n ops T ws nx0 b0 m Kt (i + 1) cr l (st.put o.dst .und)) : AGm P n ops T ws nx0 b0 m Kt i cr (o :: l) st := by
  refine .step (.skip (by rw [noW_m]; exact hW) hg hd) (AGm.put ?_ k)
  rw [SV.enc]; exact .refl _
theorem writeR_ok (hC : C.ok P) (hL : Lay m nx0 b0 st0) (hws : ∀ p ∈ ws, Good b0 st0 p.2) (hc : ∀ p ∈ cr, b0 ≤ p.2) (hI : RI F m nx0 b0 st0 st)
    (hg : o.guard = none ∨ gst ops o (Dr.lcl ops T (mapP m ws) nx0 i (mapP m cr) (st.enc m (nxOf nx0 b0 st)) o 0) = some true)
    {K : List (Nat × Nat) → SSt D → G D (KD ρ) ρ} (h : (writeR C T ws b0 i cr st o K).den fu = some r)
    (k : ∀ cr' st', RI F m nx0 b0 st0 st' → (∀ p ∈ cr', b0 ≤ p.2) → (K cr' st').den fu = some r → AGm P n ops T ws nx0 b0 m Kt (i + 1) cr' l st') : AGm P n ops T ws nx0 b0 m Kt i cr (o :: l) st := by
  obtain ⟨d, op, ty, ps, af, gg⟩ := o
  unfold writeR at h
  simp only at h
  split at h
  · rename_i t y z
    split at h
    · rename_i id b hs
      cases hb : (visS T ws b0 i cr id && (ws.any fun p => Nat.beq p.1 i && Nat.beq p.2 id) && Dr.onlyW ws i id && b.refs (visS T ws b0 i cr) (fun k _ => visS T ws b0 i cr k) && (st.blk id).refs (visS T ws b0 i cr) (fun k _ => visS T ws b0 i cr k)) with
      | false => rw [hb] at h; cases h
      | true =>
        rw [hb] at h
        simp only [cond_true] at h
        simp only [Bool.and_eq_true] at hb
        obtain ⟨⟨⟨⟨b1, b2⟩, b3⟩, b4⟩, b5⟩ := hb
        obtain ⟨Z, s, bb, off, cs, e, hI', h1, hls, ha, hblk, hle, rfl⟩ := storeB_ok hs
        have hlive : st.blk id ≠ .dead := by rw [hblk]; simp
        have hi : isBox st.blk id = true := by unfold isBox; rw [hblk]
        have ey : (st.enc m (nxOf nx0 b0 st)).ev y = .box (m id) off := by rw [enc_ev, ha, SV.enc, hi]; rfl
        have ez : ((st.enc m (nxOf nx0 b0 st)).ev z).cells = SV.encL m st.blk (st.ev z).cells := by rw [enc_ev, enc_cells]
        have hbb := enc_blk hI.mok hlive
        have hbb' := hbb
        rw [hblk, SB.enc] at hbb'
        have hset := hset_les (b := .box (setRS cs off (st.ev z).cells) e) (b' := .box (setR (SV.encL m st.blk cs) off (SV.encL m st.blk (st.ev z).cells)) e) (pB := fun _ => true) (pR := fun _ _ => true) hI.mok (.refl _) hlive (by simp) (memLe_box hblk) (refs_all st) (by
          rw [SB.enc, setRS_enc]
          have hH : ∀ l : List (SV D), LesL (SV.encL m (st.hset id (.box (setRS cs off (st.ev z).cells) e)).blk l) (SV.encL m st.blk l) := fun l => encL_les (memLe_box (pB := fun _ => true) (pR := fun _ _ => true) hblk) l (svL_refs_all l)
          exact .box e (setR_les (hH cs) (hH _) off)) hI.fr
        have hRI : RI F m nx0 b0 st0 (st.hset id (.box (setRS cs off (st.ev z).cells) e)) := ⟨hset.1, hI.ge, hset.2.2, hI.fix.trans ⟨rfl, rfl, rfl⟩, fun k hk => hI.good k (by
          rw [hset_blk] at hk
          by_cases e' : id = k
          · subst e'; exact hlive
          · rw [if_neg e'] at hk; exact hk)⟩
        refine .step (.write (id := m id) (b := .box (setR (SV.encL m st.blk cs) off (SV.encL m st.blk (st.ev z).cells)) e) (x := .und) [m id] (fun j hj => ?_) hg ?_ ?_ (onlyW_m b3) (fun hp kk hhp => ?_) ?_ rfl) (.le ?_ (k cr _ hRI hc h))
        · rw [List.mem_singleton] at hj
          subst hj
          refine ⟨?_, ?_⟩
          · unfold Dr.visW
            rw [liveS hL hc hI b1 hlive, okW_m hL hws (hI.good id hlive)]
            unfold visS at b1
            rw [Bool.and_eq_true] at b1
            rw [b1.2]; rfl
          · rw [hbb]; exact nmdB hL hc hI b5
        · unfold Dr.visW
          rw [liveS hL hc hI b1 hlive, okW_m hL hws (hI.good id hlive)]
          unfold visS at b1
          rw [Bool.and_eq_true] at b1
          rw [b1.2]; rfl
        · obtain ⟨p, hp, hpe⟩ := List.any_eq_true.1 b2
          rw [Bool.and_eq_true] at hpe
          have e1 := Nat.eq_of_beq_eq_true hpe.1
          have e2 := Nat.eq_of_beq_eq_true hpe.2
          exact List.mem_map.2 ⟨p, hp, by rw [e1, e2]⟩
        · have hz := lregs_ev (o := ⟨none, .store t y z, ty, ps, af, gg⟩) (ops := ops) (s := st.enc m (nxOf nx0 b0 st)) (x := z) (hp := hp) (k := kk) (by simp [Op.operands])
          have hy := lregs_ev (o := ⟨none, .store t y z, ty, ps, af, gg⟩) (ops := ops) (s := st.enc m (nxOf nx0 b0 st)) (x := y) (hp := hp) (k := kk) (by simp [Op.operands])
          refine opWr_box (hy.trans ey) ((hhp (m id) (by simp)).trans hbb') (by rw [hz, ez]) (allOneS_enc h1) (allP_at hC.T.inf hI') (by rw [encL_length]; exact hls) (by rw [encL_length]; exact hle)
        · have := nmdB (b := .box (setRS cs off (st.ev z).cells) e) hL hc hI b4
          rw [SB.enc, setRS_enc] at this
          exact this
        · exact hset.2.1
    · cases h
  · cases h
theorem exC_refs {pB : Nat → Bool} {pR : Nat → Nat → Bool} (fr : Bool) : ∀ (t : Ty) (cs : List (SV D)) (e : E D t) (rest : List (SV D)), exC fr t cs = some (e, rest) → SV.refsL pB pR cs = SV.refsL pB pR rest
  | .int k, cs, e, rest, h => by
    cases cs with
    | nil => rw [exC] at h; cases h; all_goals simp
    | cons c l =>
      cases c <;> simp only [exC, reduceCtorEq] at h
      split at h
      · simp only [Option.some.injEq, Prod.mk.injEq] at h
        rw [← h.2, SV.refsL, SV.refs, Bool.true_and] <;> simp
      · cases h
  | .bool, cs, e, rest, h => by
    cases cs with
    | nil => rw [exC] at h; cases h; all_goals simp
    | cons c l =>
      cases c <;> simp only [exC, reduceCtorEq, Option.some.injEq, Prod.mk.injEq] at h
      rw [← h.2, SV.refsL, SV.refs, Bool.true_and] <;> simp
  | .str, cs, e, rest, h => by
    cases cs with
    | nil => rw [exC] at h; cases h; all_goals simp
    | cons c l =>
      cases c <;> simp only [exC, reduceCtorEq, Option.some.injEq, Prod.mk.injEq] at h
      rw [← h.2, SV.refsL, SV.refs, Bool.true_and] <;> simp
  | .list t, cs, e, rest, h => by
    cases cs with
    | nil => rw [exC] at h; cases h; all_goals simp
    | cons c l =>
      cases c <;> simp only [exC, reduceCtorEq, Option.some.injEq, Prod.mk.injEq] at h
      · rw [← h.2, SV.refsL, SV.refs, Bool.true_and] <;> simp
      · rename_i fr' t' e'
        cases hc : (!fr || fr') with
        | false => rw [hc] at h; cases h
        | true =>
          rw [hc] at h
          simp only [cond_true] at h
          split at h
          · simp only [Option.some.injEq, Prod.mk.injEq] at h
            rw [← h.2, SV.refsL, SV.refs, Bool.true_and] <;> simp
          · cases h
  | .unit, cs, e, rest, h => by
    rw [exC] at h
    simp only [Option.some.injEq, Prod.mk.injEq] at h
    rw [h.2]
  | .pair a b, cs, e, rest, h => by
    rw [exC] at h
    split at h
    · rename_i x l' h1
      split at h
      · rename_i y l'' h2
        simp only [Option.some.injEq, Prod.mk.injEq] at h
        rw [← h.2]
        exact (exC_refs fr a cs x l' h1).trans (exC_refs fr b l' y l'' h2)
      · cases h
    · cases h
  | .agg t, cs, e, rest, h => by
    rw [exC] at h
    split at h
    · rename_i x l' h1
      simp only [Option.some.injEq, Prod.mk.injEq] at h
      rw [← h.2]
      exact exC_refs fr t cs x l' h1
    · cases h
  | .ptr t, cs, e, rest, h => by
    rw [exC] at h
    cases h
    all_goals simp
theorem exA_refs {pB : Nat → Bool} {pR : Nat → Nat → Bool} {fr : Bool} {t : Ty} {cs : List (SV D)} {e : E D t} (h : exA fr t cs = some e) : SV.refsL pB pR cs = true := by
  unfold exA at h
  split at h
  · rename_i x h1
    rw [exC_refs fr t cs x [] h1, SV.refsL]
  · cases h
theorem exRows_refs {pB : Nat → Bool} {pR : Nat → Nat → Bool} {fr : Bool} {t : Ty} : ∀ {rows : List (List (SV D))} {xs : E D (.list t)}, exRows fr t rows = some xs → ∀ row ∈ rows, SV.refsL pB pR row = true
  | [], xs, h, row, hr => by cases hr
  | r :: l, xs, h, row, hr => by
    rw [exRows] at h
    split at h
    · rename_i x xs' h1 h2
      rcases List.mem_cons.1 hr with rfl | hr
      · exact exA_refs h1
      · exact exRows_refs h2 row hr
    · cases h
/-- what makes a block, in any world -/
structure NewOk (P : Program) (n : Nat) (o : Oper) (lst : SSt D) (m : Nat → Nat) (b : SB D) (row : Bool) (b' : AB) : Prop where
  op : ∀ k, MOk m k lst → OpN P n o (lst.enc m k) b'
  les : LesB (b.enc m lst.blk) b'
  box : row = false → ∃ cs e cs', b = .box cs e ∧ b' = .box cs' e
  nmd : ∀ (q : Nat → Bool) (pB : Nat → Bool) (pR : Nat → Nat → Bool), (∀ id, pB id = true → isBox lst.blk id = true → q (m id) = true) → (∀ id v n, pR id v = true → rowLen lst.blk id v = some n → q (m id) = true) → b.refs pB pR = true → b'.nmd q = true
  rw : row = true → ∃ fr rt xs e rows, b = .row fr rt xs e 0 ∧ b' = .row rt.size rows e ∧ rows.length = List.length xs.den
theorem new_ok {Tb : Tab} (hT : Tb.ok P) {lst : SSt D} {b : SB D} {row : Bool} {g : E D .bool} (hn : isNew o.op = true) (h : mem0 Tb lst o.dst o.op = some (.new b row, g)) (hg : g.den = true) (hd : dok o.dst n = true) : ∃ b', NewOk P n o lst m b row b' := by
  obtain ⟨d, op, ty, ps, af, gg⟩ := o
  have hd : dok d n = true := hd
  simp only at h hn
  unfold mem0 at h
  split at h
  · rename_i e
    unfold allocS at h
    split at h
    · rename_i Z s bb h1
      cases hc : allOne (Z.cells.toList.map avOf) with
      | false => rw [hc] at h; cases h
      | true =>
        rw [hc] at h
        simp only [cond_true, Option.some.injEq, Prod.mk.injEq, MR.new.injEq] at h
        obtain ⟨⟨rfl, rfl⟩, rfl⟩ := h
        exact ⟨_, fun k _ => opN_alloc (allP_at hT.inf h1) hc hd, .box e (by rw [zeroS_enc]; exact .refl _), fun _ => ⟨_, _, _, rfl, rfl⟩, fun q pB pR hB hR hb => (by
          rw [SB.refs] at hb
          have := encL_nmd (m := m) (H := lst.blk) hB hR _ hb
          rw [zeroS_enc] at this
          exact this), fun h => by cases h⟩
    · cases h
  · rename_i e y
    unfold boxS at h
    cases hc : allOneS lst (lst.ev y).cells with
    | false => rw [hc] at h; cases h
    | true =>
      rw [hc] at h
      simp only [cond_true, Option.some.injEq, Prod.mk.injEq, MR.new.injEq] at h
      obtain ⟨⟨rfl, rfl⟩, rfl⟩ := h
      refine ⟨.box (SV.encL m lst.blk (lst.ev y).cells) e, fun k _ => ?_, .refl _, fun _ => ⟨_, _, _, rfl, rfl⟩, fun q pB pR hB hR hb => (by
          rw [SB.refs] at hb
          exact encL_nmd hB hR _ hb), fun h => by cases h⟩
      have e1 : ((lst.enc m k).ev y).cells = SV.encL m lst.blk (lst.ev y).cells := by rw [enc_ev, enc_cells]
      rw [← e1]
      exact opN_box (by rw [e1]; exact allOneS_enc hc) hd
  · split at h
    · rename_i t a v
      unfold isNew at hn
      cases hn
    · cases h
  · rename_i t y z
    unfold makeS at h
    generalize hy : lst.ev y = vy at h
    generalize hz : lst.ev z = vz at h
    split at h
    · rename_i e k L k' Cc hu
      split at h
      · rename_i Z sz bb rt hI hty
        cases hc : (allOne (Z.cells.toList.map avOf) && Nat.beq (Z.cells.toList.map avOf).length sz && Nat.blt 0 sz && Nat.blt 0 bb) with
        | false => rw [hc] at h; cases h
        | true =>
          rw [hc] at h
          simp only [cond_true] at h
          simp only [Bool.and_eq_true] at hc
          obtain ⟨⟨⟨c1, c2⟩, c3⟩, c4⟩ := hc
          split at h
          · rename_i x0 hx0
            simp only [Option.some.injEq, Prod.mk.injEq, MR.new.injEq] at h
            obtain ⟨⟨rfl, rfl⟩, rfl⟩ := h
            rw [andE_den, andE_den] at hg
            obtain ⟨g1, g2⟩ := andB hg
            obtain ⟨g2, g3⟩ := andB g2
            have g2 := leE_den g2
            have g3 := leE_den g3
            rw [mulL_den] at g3
            have hb0 : 0 < bb := by simpa using c4
            have g2 : (0 : Int) ≤ (L.den : Int) := g2
            have g3 : (bb : Int) * (L.den : Int) ≤ 281474976710656 := g3
            have g4 : (L.den : Int) ≤ 9223372036854775807 := le_of_mul hb0 g2 g3
            have hzl : (Z.cells.toList.map avOf).length = sz := Nat.eq_of_beq_eq_true c2
            have hcell := exA_ok (m := m) (H := lst.blk) hx0
            rw [zeroS_enc] at hcell
            have hsz : rt.size = sz := by rw [← rt.cells_length true x0.den, hcell.len, hzl]
            refine ⟨.row sz (List.replicate (L.den : Int).toNat (Z.cells.toList.map avOf)) e, fun kk hm => ?_, ?_, (fun h => by cases h), (fun q pB pR hB hR _ => by
              refine List.all_eq_true.2 fun row hr => ?_
              rw [(List.mem_replicate.1 hr).2, ← zeroS_enc (m := m) (H := lst.blk)]
              exact encL_nmd hB hR _ (exA_refs hx0)), fun _ => ⟨_, _, _, _, _, rfl, by rw [hsz], by
              rw [List.length_replicate]
              show _ = (List.replicate _ _).length
              rw [List.length_replicate]⟩⟩
            · have ey : (lst.enc m kk).ev y = .int k L.den := by rw [enc_ev, hy, SV.enc]
              have ez : (lst.enc m kk).ev z = .int k' Cc.den := by rw [enc_ev, hz, SV.enc]
              have hCL : (Cc.den : Int) = (L.den : Int) := by
                cases hso : sameOp y z with
                | true => exact sameOp_eq hso ey ez
                | false => rw [hso] at g1; exact eqE_den g1
              exact opN_make (allP_at hT.und hu) (allP_at hT.inf hI) hzl (by simpa using c3) c1 ey (by rw [ez, hCL]) g2 g3 g4 hd
            · subst hsz
              refine .rows ⟨?_, fun i row row' h1 h2 => ?_⟩
              · show (List.map _ (List.replicate _ _)).length = _
                rw [List.length_map, List.length_replicate, List.length_replicate]
              · have h1 : ((List.replicate (L.den : Int).toNat x0.den).map (rt.cells true))[i]? = some row := h1
                rw [List.getElem?_map, List.getElem?_replicate] at h1
                rw [List.getElem?_replicate] at h2
                split at h1
                · rename_i hi
                  rw [if_pos hi] at h2
                  simp only [Option.map_some, Option.some.injEq] at h1 h2
                  subst h1; subst h2
                  exact hcell
                · cases h1
          · cases h
      · cases h
    · cases h
  · rename_i t L parts
    unfold litS at h
    split at h
    · rename_i e hu
      split at h
      · rename_i Z sz bb rt hI hty
        cases hc : (allOne (Z.cells.toList.map avOf) && Nat.beq (Z.cells.toList.map avOf).length sz && Nat.blt 0 sz && Nat.ble (L * sz) 16777216 && Nat.beq rt.size sz) with
        | false => rw [hc] at h; cases h
        | true =>
          rw [hc] at h
          simp only [cond_true] at h
          simp only [Bool.and_eq_true] at hc
          obtain ⟨⟨⟨⟨c1, c2⟩, c3⟩, c4⟩, c5⟩ := hc
          split at h
          · rename_i out hf'
            cases ho : Nat.beq out.length (L * sz) with
            | false => rw [ho] at h; cases h
            | true =>
              rw [ho] at h
              simp only [cond_true] at h
              have hf' := fillS_enc (m := m) hf'
              rw [zerosS_enc, zeroS_enc] at hf'
              have hsz := Nat.eq_of_beq_eq_true c5
              have fin : ∀ fr xs, exRows fr rt (chunkS sz L out) = some xs → b = .row fr rt xs e 0 → row = true → ∃ b', NewOk P n ⟨d, .buildSlice t L parts, ty, ps, af, gg⟩ lst m b row b' := by
                intro fr xs hx eb er
                subst eb; subst er
                have hch := chunkS_at (m := m) (H := lst.blk) hx
                refine ⟨.row sz (chunk sz L (SV.encL m lst.blk out)) e, fun kk hm => ?_, ?_, (fun h => by cases h), (fun q pB pR hB hR _ => by
                  refine List.all_eq_true.2 fun row hr => ?_
                  rw [chunkS_enc] at hr
                  obtain ⟨r0, h1, rfl⟩ := List.mem_map.1 hr
                  exact encL_nmd hB hR _ (exRows_refs hx r0 h1)), fun _ => ⟨_, _, _, _, _, rfl, by rw [hsz], ?_⟩⟩
                · have hf2 := hf'
                  rw [← evPartsS_enc (nx := kk)] at hf2
                  exact opN_lit (allP_at hT.und hu) (allP_at hT.inf hI) c1 (Nat.eq_of_beq_eq_true c2) (by simpa using c3) c4 hf2 (by rw [encL_length]; exact Nat.eq_of_beq_eq_true ho) hd
                · subst hsz
                  exact .rows hch
                · have := hch.len
                  rw [List.length_map] at this
                  exact this.symm
              unfold litRow at h
              split at h
              · rename_i xs hx
                simp only [Option.some.injEq, Prod.mk.injEq, MR.new.injEq] at h
                exact fin _ _ hx h.1.1.symm h.1.2.symm
              · split at h
                · rename_i xs hx
                  simp only [Option.some.injEq, Prod.mk.injEq, MR.new.injEq] at h
                  exact fin _ _ hx h.1.1.symm h.1.2.symm
                · cases h
          · cases h
      · cases h
    · cases h
  · unfold isNew at hn
    cases hn
  · cases h
/-- a new block, its number laid out already -/
theorem hnew_fix {nx : Nat} {b : SB D} {b' : AB} {s : ASt} (hm : MOk m nx st) (hl : LeS (st.enc m nx) s) (hf : FrOk m st.blk st.fr F) (hmx : m st.nx = nx) (hbd : b ≠ .dead) (hr : st.refs (nB st) (nR st) = true) (hb : LesB (b.enc m (st.hnew b).blk) b') :
    MOk m (nx + 1) (st.hnew b) ∧ LeS ((st.hnew b).enc m (nx + 1)) (s.hnew b') ∧ FrOk m (st.hnew b).blk (st.hnew b).fr F := by
  have hnx : nx = s.nx := hl.nx
  have hc : MemLe m st.blk m (st.hnew b).blk (nB st) (nR st) := by
    have hne : ∀ id, (!Nat.beq id st.nx) = true → id ≠ st.nx := by
      intro id h e
      subst e
      have h : (!Nat.beq st.nx st.nx) = true := h
      rw [Nat.beq_refl] at h; cases h
    refine ⟨fun id h => .inr ⟨?_, rfl⟩, fun id v h => .inr ⟨?_, rfl⟩⟩
    · unfold isBox; rw [hnew_blk, if_neg (Ne.symm (hne id h))]
    · unfold rowLen; rw [hnew_blk, if_neg (Ne.symm (hne id h))]
  unfold SSt.refs at hr
  simp only [Bool.and_eq_true] at hr
  obtain ⟨r1, r2, r3, r4, r5⟩ := hr
  have hlv : ∀ k, (st.hnew b).blk k ≠ .dead → k ≠ st.nx → st.blk k ≠ .dead := by
    intro k hk e
    rw [hnew_blk, if_neg (Ne.symm e)] at hk; exact hk
  refine ⟨⟨fun k hk => ?_, fun k k' hk hk' e => ?_, fun p hp => ?_⟩, ⟨fun d => ?_, fun k => ?_, ?_⟩, hf.les' hc r5⟩
  · by_cases e : k = st.nx
    · rw [e, hmx]; omega
    · have := hm.lt k (hlv k hk e); omega
  · by_cases e1 : k = st.nx
    · by_cases e2 : k' = st.nx
      · omega
      · rw [e1, hmx] at e
        have := hm.lt k' (hlv k' hk' e2)
        omega
    · by_cases e2 : k' = st.nx
      · rw [e2, hmx] at e
        have := hm.lt k (hlv k hk e1)
        omega
      · exact hm.inj k k' (hlv k hk e1) (hlv k' hk' e2) e
  · show p.1 < st.nx + 1 ∧ p.2 ≠ .dead
    rcases List.mem_cons.1 hp with rfl | hp
    · exact ⟨Nat.lt_succ_self _, hbd⟩
    · have := hm.keys p hp; exact ⟨by omega, this.2⟩
  · show Les (look .any (encR m (st.hnew b).blk (st.regs ++ st.kp)) d) _
    exact (encR_les hc _ (by rw [refsR_append, r1, r2]; rfl) d).trans (hl.regs d)
  · show LesB (look .dead ((m st.nx, b.enc m (st.hnew b).blk) :: encH m (st.hnew b).blk (st.heap ++ st.hk)) k) (look .dead ((s.nx, b') :: s.heap) k)
    rw [look_cons, look_cons, hmx.trans hnx]
    split
    · exact hb
    · exact (encH_les hc _ (by rw [refsH_append, r3, r4]; rfl) (fun _ _ => rfl) k).trans (hl.heap k)
  · show nx + 1 = s.nx + 1; omega
theorem newW_m (hL : Lay m nx0 b0 st0) (hws : ∀ p ∈ ws, Good b0 st0 p.2) (hge : b0 ≤ st.nx) (h : Dr.newW T ws i st.nx = true) : Dr.newW T (mapP m ws) i (nxOf nx0 b0 st) = true := by
  have e : nxOf nx0 b0 st = m st.nx := (hL.new _ hge).symm
  rw [e]
  unfold Dr.newW mapP at *
  rw [List.all_map]
  refine List.all_eq_true.2 fun p hp => ?_
  have := List.all_eq_true.1 h p hp
  show (bif Nat.beq (m p.2) (m st.nx) then _ else true) = true
  rw [beq_m hL (hws p hp) (.inl hge)]
  exact this
theorem newR_ok (hC : C.ok P) (hL : Lay m nx0 b0 st0) (hws : ∀ p ∈ ws, Good b0 st0 p.2) (hc : ∀ p ∈ cr, b0 ≤ p.2) (hI : RI F m nx0 b0 st0 st) (hd : dok o.dst n = true) (hnw : isNew o.op = true)
    (hg : o.guard = none ∨ gst ops o (Dr.lcl ops T (mapP m ws) nx0 i (mapP m cr) (st.enc m (nxOf nx0 b0 st)) o 0) = some true)
    {K : List (Nat × Nat) → SSt D → G D (KD ρ) ρ} (h : (newR C T ws b0 i cr (lclS ops T ws b0 i cr st o) st o K).den fu = some r)
    (k : ∀ cr' st', RI F m nx0 b0 st0 st' → (∀ p ∈ cr', b0 ≤ p.2) → (K cr' st').den fu = some r → AGm P n ops T ws nx0 b0 m Kt (i + 1) cr' l st') : AGm P n ops T ws nx0 b0 m Kt i cr (o :: l) st := by
  unfold newR at h
  split at h
  · rename_i b row g hmem
    cases hb : (Dr.noW ws i && Dr.newW T ws i st.nx && b.refs (fun k => visS T ws b0 i cr k && !Nat.beq k st.nx) (fun k _ => visS T ws b0 i cr k && !Nat.beq k st.nx) && st.refs (fun id => !Nat.beq id st.nx) (fun id _ => !Nat.beq id st.nx)) with
    | false => rw [hb] at h; cases h
    | true =>
      rw [hb] at h
      simp only [cond_true] at h
      simp only [Bool.and_eq_true] at hb
      obtain ⟨⟨⟨b1, b2⟩, b3⟩, b4⟩ := hb
      obtain ⟨hgd, h⟩ := grdG_den h
      obtain ⟨b', hN⟩ := new_ok (m := m) hC.T hnw hmem hgd hd
      have hop : ∀ k, OpN P n o (Dr.lcl ops T (mapP m ws) nx0 i (mapP m cr) (st.enc m (nxOf nx0 b0 st)) o k) b' := fun k => ⟨hd, fun K a w G r => by
        have hk := lt_of_rel hL hws hc hI.good hI.mok r
        have hm := lclS_mok (ops := ops) (T := T) (ws := ws) (b0 := b0) (i := i) (cr := cr) (o := o) hI.mok hk
        exact (hN.op k hm).out K a w G (r.les (lclS_les hL hws hc hI.good hI.mok hk))⟩
      have hmx : m st.nx = nxOf nx0 b0 st := hL.new _ hI.ge
      have hmem2 : MemLe m (lclS ops T ws b0 i cr st o).blk m (st.hnew b).blk (fun k => visS T ws b0 i cr k && !Nat.beq k st.nx) (fun k _ => visS T ws b0 i cr k && !Nat.beq k st.nx) := by
        have e : ∀ k, (visS T ws b0 i cr k && !Nat.beq k st.nx) = true → (st.hnew b).blk k = (lclS ops T ws b0 i cr st o).blk k := by
          intro k hk
          rw [Bool.and_eq_true] at hk
          have hne : st.nx ≠ k := fun e => by
            subst e
            have := hk.2
            rw [Nat.beq_refl] at this; cases this
          rw [hnew_blk, if_neg hne, lclS_blk, hk.1]; rfl
        exact ⟨fun id h => .inr ⟨by unfold isBox; rw [e id h], rfl⟩, fun id v h => .inr ⟨by unfold rowLen; rw [e id h], rfl⟩⟩
      have hbd : b ≠ .dead := by
        intro e
        subst e
        cases row with
        | true => obtain ⟨_, _, _, _, _, h1, _⟩ := hN.rw rfl; cases h1
        | false => obtain ⟨_, _, _, h1, _⟩ := hN.box rfl; cases h1
      have hset := hnew_fix (b := b) (b' := b') hI.mok (.refl _) hI.fr hmx hbd b4 ((encB_les hmem2 b b3).trans hN.les)
      have hnx' : nxOf nx0 b0 (st.hnew b) = nxOf nx0 b0 st + 1 := by
        have := hI.ge
        show nx0 + (st.nx + 1 - b0) = nx0 + (st.nx - b0) + 1
        omega
      have hRI : RI F m nx0 b0 st0 (st.hnew b) := ⟨by rw [hnx']; exact hset.1, by show b0 ≤ st.nx + 1; have := hI.ge; omega, hset.2.2, hI.fix.trans ⟨rfl, rfl, rfl⟩, fun k hk => by
        rw [hnew_blk] at hk
        by_cases e' : st.nx = k
        · exact .inl (by have := hI.ge; omega)
        · rw [if_neg e'] at hk; exact hI.good k hk⟩
      have hnm : b'.nmd (vis T nx0 i (mapP m cr)) = true := by
        have key : ∀ id, (visS T ws b0 i cr id && !Nat.beq id st.nx) = true → (lclS ops T ws b0 i cr st o).blk id ≠ .dead → vis T nx0 i (mapP m cr) (m id) = true := by
          intro id hv hbl
          rw [Bool.and_eq_true] at hv
          rw [lclS_blk, hv.1] at hbl
          exact liveS hL hc hI hv.1 hbl
        refine hN.nmd _ _ _ (fun id hp hbl => key id hp fun e => ?_) (fun id v n hp hbl => key id hp fun e => ?_) b3
        · unfold isBox at hbl; rw [e] at hbl; cases hbl
        · unfold rowLen at hbl; rw [e] at hbl; cases hbl
      have hcr : ∀ p ∈ (i, st.nx) :: cr, b0 ≤ p.2 := fun p hp => by
        rcases List.mem_cons.1 hp with rfl | hp
        · exact hI.ge
        · exact hc p hp
      have hst : Dr.AG P n ops T (mapP m ws) nx0 Kt (i + 1) (mapP m ((i, st.nx) :: cr)) l (((st.enc m (nxOf nx0 b0 st)).hnew b').put o.dst (refB b' (st.enc m (nxOf nx0 b0 st)).nx)) := by
        refine .le ?_ (k _ _ (by rw [MR.app]; exact hRI.put _ _) hcr h)
        have e : nxOf nx0 b0 (MR.app st o.dst (.new b row)) = nxOf nx0 b0 st + 1 := by
          rw [MR.app, ← hnx']
          cases o.dst <;> rfl
        rw [e, MR.app, put_enc]
        refine hset.2.1.put ?_
        cases row with
        | true =>
          obtain ⟨fr, rt, xs, e1, rows, h1, h2, h3⟩ := hN.rw rfl
          subst h1; subst h2
          have hi : rowLen (st.hnew (.row fr rt xs e1 0)).blk st.nx 0 = some (List.length xs.den) := by unfold rowLen; rw [hnew_blk, if_pos rfl]; rfl
          show Les (SV.enc m _ (.osl st.nx 0)) (.osl (nxOf nx0 b0 st) rows.length)
          rw [SV.enc, hi, hmx, h3]
          exact .refl _
        | false =>
          obtain ⟨cs, e1, cs', h1, h2⟩ := hN.box rfl
          subst h1; subst h2
          have hi : isBox (st.hnew (.box cs e1)).blk st.nx = true := by unfold isBox; rw [hnew_blk, if_pos rfl]
          show Les (SV.enc m _ (.box st.nx 0)) (.box (nxOf nx0 b0 st) 0)
          rw [SV.enc, hi, hmx]
          exact .refl _
      have e2 : mapP m ((i, st.nx) :: cr) = (i, (st.enc m (nxOf nx0 b0 st)).nx) :: mapP m cr := by
        show (i, m st.nx) :: mapP m cr = _
        rw [hmx]; rfl
      rw [e2] at hst
      exact .step (.new (by rw [noW_m]; exact b1) (newW_m hL hws hI.ge b2) hg hop hnm) hst
  · cases h
theorem stepR_ok' (hC : C.ok P) (hL : Lay m nx0 b0 st0) (hws : ∀ p ∈ ws, Good b0 st0 p.2) (hc : ∀ p ∈ cr, b0 ≤ p.2) (hI : RI F m nx0 b0 st0 st) (hd : dok o.dst n = true)
    (hg : o.guard = none ∨ gst ops o (Dr.lcl ops T (mapP m ws) nx0 i (mapP m cr) (st.enc m (nxOf nx0 b0 st)) o 0) = some true)
    {K : List (Nat × Nat) → SSt D → G D (KD ρ) ρ} (h : (stepR' C T ws b0 i cr (lclS ops T ws b0 i cr st o) st o K).den fu = some r)
    (k : ∀ cr' st', RI F m nx0 b0 st0 st' → (∀ p ∈ cr', b0 ≤ p.2) → (K cr' st').den fu = some r → AGm P n ops T ws nx0 b0 m Kt (i + 1) cr' l st') : AGm P n ops T ws nx0 b0 m Kt i cr (o :: l) st := by
  unfold stepR' at h
  split at h
  · rename_i x g hx
    cases hb : (Dr.noW ws i && x.refs (visS T ws b0 i cr) (fun k _ => visS T ws b0 i cr k)) with
    | false => rw [hb] at h; cases h
    | true =>
      rw [hb] at h
      rw [Bool.and_eq_true] at hb
      simp only [cond_true] at h
      obtain ⟨hgd, h⟩ := grdG_den h
      have hop : ∀ k, OpR P n o (Dr.lcl ops T (mapP m ws) nx0 i (mapP m cr) (st.enc m (nxOf nx0 b0 st)) o k) (x.enc m (lclS ops T ws b0 i cr st o).blk) := fun k => ⟨hd, fun K a w G r => by
        have hk := lt_of_rel hL hws hc hI.good hI.mok r
        have hm := lclS_mok (ops := ops) (T := T) (ws := ws) (b0 := b0) (i := i) (cr := cr) (o := o) hI.mok hk
        exact (OpR.le (lclS_les hL hws hc hI.good hI.mok hk) (rd_ok (n := n) hC.T hm hx hgd hd)).out K a w G r⟩
      have hnm := nmdS (ops := ops) (o := o) hL hc hI hb.2
      have hles : Les (x.enc m st.blk) (x.enc m (lclS ops T ws b0 i cr st o).blk) := enc_les lclS_memS x hb.2
      cases hl : lets o.op with
      | true =>
        rw [hl] at h
        simp only [cond_true] at h
        obtain ⟨y, hy, h⟩ := letV_den h
        exact .step (.read (by rw [noW_m]; exact hb.1) hg hop hnm) (AGm.put (by rw [hy]; exact hles) (k cr _ (hI.put _ _) hc h))
      | false =>
        rw [hl] at h
        exact .step (.read (by rw [noW_m]; exact hb.1) hg hop hnm) (AGm.put hles (k cr _ (hI.put _ _) hc h))
  · cases hnw : isNew o.op with
    | true =>
      rw [hnw] at h
      exact newR_ok hC hL hws hc hI hd hnw hg h k
    | false =>
    rw [hnw] at h
    simp only [cond_false] at h
    cases hb : Dr.noW ws i with
    | false =>
      rw [hb] at h
      exact writeR_ok hC hL hws hc hI hg h k
    | true =>
      rw [hb] at h
      simp only [cond_true] at h
      obtain ⟨d, op, ty, ps, af, gg⟩ := o
      have hd : dok d n = true := hd
      simp only at h
      unfold callR at h
      split at h
      · rename_i cal args ats _
        split at h
        · rename_i Fn caps hcal
          split at h
          · rename_i hF
            have hcal' := allP_at hC.cas hF
            split at h
            · rename_i c hctr
              split at h
              · rename_i e hargs
                rw [G.den] at h
                unfold bindO at h
                split at h
                · rename_i y hy
                  have hAF := allP_at hC.ctrs hctr fu e.den y hy
                  have hop : ∀ k, OpF P n ⟨d, .call ⟨.value cal, args, ats⟩, ty, ps, af, gg⟩ (Dr.lcl ops T (mapP m ws) nx0 i (mapP m cr) (st.enc m (nxOf nx0 b0 st)) ⟨d, .call ⟨.value cal, args, ats⟩, ty, ps, af, gg⟩ k) (oneOf (c.r.avs true y)) := fun k => ⟨hd, fun K a w G r => by
                    have hk := lt_of_rel hL hws hc hI.good hI.mok r
                    have hm := lclS_mok (ops := ops) (T := T) (ws := ws) (b0 := b0) (i := i) (cr := cr) (o := ⟨d, .call ⟨.value cal, args, ats⟩, ty, ps, af, gg⟩) hI.mok hk
                    have hc' : ((lclS ops T ws b0 i cr st ⟨d, .call ⟨.value cal, args, ats⟩, ty, ps, af, gg⟩).enc m k).ev cal = .fn Fn (SV.encL m (lclS ops T ws b0 i cr st ⟨d, .call ⟨.value cal, args, ats⟩, ty, ps, af, gg⟩).blk caps) := by rw [enc_ev, hcal, SV.enc]
                    exact (OpF.le (lclS_les hL hws hc hI.good hI.mok hk) (OpF.of hc' (evS_append _ args.toList caps) hcal' hd hAF (exArgs_ok hm _ _ _ hargs))).out K a w G r⟩
                  refine .step (.call (by rw [noW_m]; exact hb) hg hop ?_) (AGm.put ?_ (k cr _ (hI.put _ _) hc h))
                  · have e1 : (oneOfS (svsE true c.r (.var y : E D c.r))).enc m (fun _ => SB.dead) = oneOf (c.r.avs true y) := by rw [oneOfS_enc, svsE_enc]; rfl
                    rw [← e1]
                    exact enc_nmd (pB := fun _ => false) (pR := fun _ _ => false) (fun id h => by cases h) (fun id v n h => by cases h) _ (one_nmd (datas_nmd c.r _))
                  · rw [oneOfS_enc, svsE_enc]; exact .refl _
                · cases h
              · cases h
            · cases h
          · cases h
        · cases h
      · cases h
theorem sR_ok (hC : C.ok P) (hL : Lay m nx0 b0 st0) (hws : ∀ p ∈ ws, Good b0 st0 p.2) {K : SSt D → G D (KD ρ) ρ} (hK : ∀ st', RI F m nx0 b0 st0 st' → (K st').den fu = some r → Kt (st'.enc m (nxOf nx0 b0 st'))) : ∀ (l : List Oper) (i : Nat) (cr : List (Nat × Nat)) (st : SSt D), (sR C n ops T ws b0 K i cr l st).den fu = some r → RI F m nx0 b0 st0 st → (∀ p ∈ cr, b0 ≤ p.2) →
    AGm P n ops T ws nx0 b0 m Kt i cr l st
  | [], i, cr, st, h, hI, hc => .nil (hK st hI h)
  | o :: l, i, cr, st, h, hI, hc => by
    rw [sR] at h
    cases hd : dok o.dst n with
    | false => rw [hd] at h; cases h
    | true =>
      rw [hd] at h
      simp only [cond_true] at h
      have ihr : ∀ cr' st', RI F m nx0 b0 st0 st' → (∀ p ∈ cr', b0 ≤ p.2) → (sR C n ops T ws b0 K (i + 1) cr' l st').den fu = some r → AGm P n ops T ws nx0 b0 m Kt (i + 1) cr' l st' :=
        fun cr' st' h1 h2 h3 => sR_ok hC hL hws hK l (i + 1) cr' st' h3 h1 h2
      have sk : ∀ st1, RI F m nx0 b0 st0 st1 → gst ops o (Dr.lcl ops T (mapP m ws) nx0 i (mapP m cr) (st1.enc m (nxOf nx0 b0 st1)) o 0) = some false → (bif Dr.noW ws i then sR C n ops T ws b0 K (i + 1) cr l (st1.put o.dst .und) else .fail).den fu = some r → AGm P n ops T ws nx0 b0 m Kt i cr (o :: l) st1 := by
        intro st1 hI hg h
        cases hb : Dr.noW ws i with
        | false => rw [hb] at h; cases h
        | true =>
          rw [hb] at h
          exact skipR_ok hd hb hg (ihr cr _ (hI.put _ _) hc h)
      split at h
      · rename_i hw
        exact stepR_ok' hC hL hws hc hI hd (gst_yesS hw) h ihr
      · rename_i hw
        exact sk st hI (gst_noS hw) h
      · rename_i c d want hw
        obtain ⟨hg, hx⟩ := wantS_ask hw
        rw [G.den] at h
        have know : ∀ b, c.den = b → AGm P n ops T ws nx0 b0 m Kt i cr (o :: l) (st.put (some d) (.bool (.bL b))) → AGm P n ops T ws nx0 b0 m Kt i cr (o :: l) st := by
          intro b hb k
          refine .le ?_ k
          have e : nxOf nx0 b0 (st.put (some d) (.bool (.bL b))) = nxOf nx0 b0 st := rfl
          rw [e, put_enc]
          refine ⟨fun k => ?_, fun k => .refl _, rfl⟩
          show Les (look .any ((d, SV.enc m st.blk (.bool (.bL b))) :: (st.enc m (nxOf nx0 b0 st)).regs) k) _
          rw [look_cons]
          split
          · rename_i e
            subst e
            rw [enc_get, hx, SV.enc, SV.enc]
            exact .of (congrArg AV.bool hb.symm)
          · exact .refl _
        cases hcd : (c.den : Bool) with
        | true =>
          rw [hcd] at h
          simp only [cond_true] at h
          refine know true hcd ?_
          cases want with
          | true => exact stepR_ok' hC hL hws hc (hI.put _ _) hd (.inr (gst_put hg)) h ihr
          | false => exact sk _ (hI.put _ _) (gst_put hg) h
        | false =>
          rw [hcd] at h
          simp only [cond_false] at h
          refine know false hcd ?_
          cases want with
          | true => exact sk _ (hI.put _ _) (gst_put hg) h
          | false => exact stepR_ok' hC hL hws hc (hI.put _ _) hd (.inr (gst_put hg)) h ihr
      · cases h
theorem drR_ok (hC : C.ok P) {self : SelfG D (KD ρ) ρ} (hS : SelfOkG P fu self) : DrawOk (ρ := ρ) P fu n (drR C self) := by
  intro an l st K r F s id h hs
  unfold drR at h
  generalize wsD C.T 0 (l.take (tailN (ancs l []) l.length)) st = ws at h
  unfold drW at h
  cases hb : (Dr.planR l (ancs l []) && (ws.all fun p => isLive (st.blk p.2) || Nat.ble st.nx p.2) && Dr.tailR l (ancs l []) (tailN (ancs l []) l.length)) with
  | false => rw [hb] at h; cases h
  | true =>
    rw [hb] at h
    rw [Bool.and_eq_true, Bool.and_eq_true] at hb
    simp only [cond_true] at h
    obtain ⟨m0, nx0, hm, hr, hf⟩ := hs
    let m : Nat → Nat := fun k => if k < st.nx then m0 k else nx0 + (k - st.nx)
    have hlv : ∀ k, st.blk k ≠ .dead → k < st.nx := fun k hk => hm.live hk
    have hmk : ∀ k, k < st.nx → m k = m0 k := fun k hk => if_pos hk
    have hmn : ∀ k, st.nx ≤ k → m k = nx0 + (k - st.nx) := fun k hk => if_neg (by omega)
    have hmem : MemLe m0 st.blk m st.blk (fun _ => true) (fun _ _ => true) := by
      refine ⟨fun id _ => ?_, fun id v _ => ?_⟩
      · by_cases e : st.blk id = .dead
        · left; unfold isBox; rw [e]
        · exact .inr ⟨rfl, hmk id (hlv id e)⟩
      · by_cases e : st.blk id = .dead
        · left; unfold rowLen; rw [e]
        · exact .inr ⟨rfl, hmk id (hlv id e)⟩
    have hall := refs_all st
    unfold SSt.refs at hall
    simp only [Bool.and_eq_true] at hall
    obtain ⟨r1, r2, r3, r4, r5⟩ := hall
    have hmok : MOk m nx0 st := ⟨fun k hk => by rw [hmk k (hlv k hk)]; exact hm.lt k hk, fun k k' hk hk' e => by rw [hmk k (hlv k hk), hmk k' (hlv k' hk')] at e; exact hm.inj k k' hk hk' e, hm.keys⟩
    have hles : LeS (st.enc m nx0) (st.enc m0 nx0) := by
      refine ⟨fun d => ?_, fun k => ?_, rfl⟩
      · exact encR_les hmem (st.regs ++ st.kp) (by rw [refsR_append, r1, r2]; rfl) d
      · exact encH_les hmem (st.heap ++ st.hk) (by rw [refsH_append, r3, r4]; rfl) (fun p hp => hmk p.1 (hm.keys p hp).1) k
    have hL : Lay m nx0 st.nx st := ⟨hmn, fun k hk hb => by rw [hmk k hk]; exact hm.lt k hb, fun k k' h1 h2 e => hmok.inj k k' h1 h2 e, hlv⟩
    have hws : ∀ p ∈ ws, Good st.nx st p.2 := by
      intro p hp
      have := List.all_eq_true.1 hb.1.2 p hp
      rw [Bool.or_eq_true] at this
      rcases this with h | h
      · right
        intro e
        rw [e] at h
        cases h
      · exact .inl (Nat.le_of_ble_eq_true h)
    have hnx : nxOf nx0 st.nx st = nx0 := by unfold nxOf; omega
    have hI : RI F m nx0 st.nx st st := ⟨by rw [hnx]; exact hmok, Nat.le_refl _, hf.les' hmem r5, .refl st, fun k hk => .inr hk⟩
    have := sR_ok (ops := ⟨l⟩) (T := ancs l []) (ws := ws) (Kt := fun s => AL P n l.toArray (PostL F st fun st' => (K st').den fu = some r) (l.drop (tailN (ancs l []) l.length)) s) hC hL hws (fun st' hI' h' => sL_ok hC hS an _ _ st' _ h' ⟨m, _, hI'.mok, .refl _, hI'.fr⟩ hI'.fix) (l.take (tailN (ancs l []) l.length)) 0 [] st h hI (fun p hp => by cases hp)
    unfold AGm at this
    rw [hnx] at this
    exact AW.rle (hr.trans hles.rle) (Dr.AW.drawR (mapP m ws) (tailN (ancs l []) l.length) hC.mixed rfl hb.1.1 hb.2 this)
end
end Go.Proofs.Ytnbmldnahacnlaa
/- Facts on the types and functions that the symbolic walks ask for (printed by a program). -/
namespace Go.Proofs.Ytnbmldnahacnlaa
open Go
def tab : Tab := {
  und := [(0, Go.TypeDesc.tuple #[]),
    (1, Go.TypeDesc.func #[] #[] false),
    (2, Go.TypeDesc.int (Go.IntKind.i64)),
    (3, Go.TypeDesc.int (Go.IntKind.i64)),
    (4, Go.TypeDesc.bool),
    (5, Go.TypeDesc.int (Go.IntKind.u8)),
    (6, Go.TypeDesc.int (Go.IntKind.u8)),
    (7, Go.TypeDesc.struct #[{ name := "x", type := 2, offset := 0, embedded := false, tag := "", pkgPath := "runtime", byteOffset := 0 }, { name := "y", type := 3, offset := 1, embedded := false, tag := "", pkgPath := "runtime", byteOffset := 8 }, { name := "signed", type := 4, offset := 2, embedded := false, tag := "", pkgPath := "runtime", byteOffset := 16 }, { name := "code", type := 6, offset := 3, embedded := false, tag := "", pkgPath := "runtime", byteOffset := 17 }]),
    (8, Go.TypeDesc.struct #[{ name := "x", type := 2, offset := 0, embedded := false, tag := "", pkgPath := "runtime", byteOffset := 0 }, { name := "y", type := 3, offset := 1, embedded := false, tag := "", pkgPath := "runtime", byteOffset := 8 }, { name := "signed", type := 4, offset := 2, embedded := false, tag := "", pkgPath := "runtime", byteOffset := 16 }, { name := "code", type := 6, offset := 3, embedded := false, tag := "", pkgPath := "runtime", byteOffset := 17 }]),
    (9, Go.TypeDesc.string),
    (10, Go.TypeDesc.string),
    (11, Go.TypeDesc.string),
    (12, Go.TypeDesc.int (Go.IntKind.u64)),
    (13, Go.TypeDesc.struct #[{ name := "msg", type := 9, offset := 0, embedded := false, tag := "", pkgPath := "runtime", byteOffset := 0 }, { name := "addr", type := 12, offset := 1, embedded := false, tag := "", pkgPath := "runtime", byteOffset := 16 }]),
    (14, Go.TypeDesc.struct #[{ name := "msg", type := 9, offset := 0, embedded := false, tag := "", pkgPath := "runtime", byteOffset := 0 }, { name := "addr", type := 12, offset := 1, embedded := false, tag := "", pkgPath := "runtime", byteOffset := 16 }]),
    (15, Go.TypeDesc.pointer 133),
    (16, Go.TypeDesc.pointer 136),
    (17, Go.TypeDesc.pointer 146),
    (18, Go.TypeDesc.struct #[{ name := "typ", type := 17, offset := 0, embedded := false, tag := "", pkgPath := "internal/runtime/maps", byteOffset := 0 }]),
    (19, Go.TypeDesc.struct #[{ name := "typ", type := 17, offset := 0, embedded := false, tag := "", pkgPath := "internal/runtime/maps", byteOffset := 0 }]),
    (20, Go.TypeDesc.interface #[]),
    (21, Go.TypeDesc.int (Go.IntKind.i32)),
    (22, Go.TypeDesc.slice 5),
    (23, Go.TypeDesc.struct #[{ name := "W", type := 3, offset := 0, embedded := false, tag := "", pkgPath := "", byteOffset := 0 }, { name := "H", type := 3, offset := 1, embedded := false, tag := "", pkgPath := "", byteOffset := 8 }, { name := "Data", type := 22, offset := 2, embedded := false, tag := "", pkgPath := "", byteOffset := 16 }]),
    (24, Go.TypeDesc.struct #[{ name := "W", type := 3, offset := 0, embedded := false, tag := "", pkgPath := "", byteOffset := 0 }, { name := "H", type := 3, offset := 1, embedded := false, tag := "", pkgPath := "", byteOffset := 8 }, { name := "Data", type := 22, offset := 2, embedded := false, tag := "", pkgPath := "", byteOffset := 16 }]),
    (25, Go.TypeDesc.func #[] #[4] false),
    (26, Go.TypeDesc.struct #[{ name := "X", type := 3, offset := 0, embedded := false, tag := "", pkgPath := "", byteOffset := 0 }, { name := "Y", type := 3, offset := 1, embedded := false, tag := "", pkgPath := "", byteOffset := 8 }]),
    (27, Go.TypeDesc.struct #[{ name := "X", type := 3, offset := 0, embedded := false, tag := "", pkgPath := "", byteOffset := 0 }, { name := "Y", type := 3, offset := 1, embedded := false, tag := "", pkgPath := "", byteOffset := 8 }]),
    (28, Go.TypeDesc.int (Go.IntKind.i64)),
    (29, Go.TypeDesc.tuple #[27, 28]),
    (30, Go.TypeDesc.func #[24, 3] #[27, 28] false),
    (31, Go.TypeDesc.tuple #[24, 28]),
    (32, Go.TypeDesc.func #[3] #[24, 28] false),
    (33, Go.TypeDesc.func #[3, 3, 3] #[4] false),
    (34, Go.TypeDesc.func #[24, 28, 28] #[4] false),
    (35, Go.TypeDesc.slice 4),
    (36, Go.TypeDesc.func #[24, 24] #[4] false),
    (37, Go.TypeDesc.func #[3, 3, 35] #[24] false),
    (38, Go.TypeDesc.func #[24] #[28] false),
    (39, Go.TypeDesc.func #[4, 28, 28] #[4] false),
    (40, Go.TypeDesc.func #[24] #[4] false),
    (41, Go.TypeDesc.func #[24, 3, 3] #[4] false),
    (42, Go.TypeDesc.func #[24, 3] #[4] false),
    (43, Go.TypeDesc.slice 48),
    (44, Go.TypeDesc.tuple #[43, 28]),
    (45, Go.TypeDesc.func #[3, 3, 3] #[43, 28] false),
    (46, Go.TypeDesc.func #[3, 3] #[3] false),
    (47, Go.TypeDesc.struct #[{ name := "X", type := 3, offset := 0, embedded := false, tag := "", pkgPath := "", byteOffset := 0 }, { name := "W", type := 3, offset := 1, embedded := false, tag := "", pkgPath := "", byteOffset := 8 }, { name := "Kind", type := 3, offset := 2, embedded := false, tag := "", pkgPath := "", byteOffset := 16 }, { name := "Unit", type := 3, offset := 3, embedded := false, tag := "", pkgPath := "", byteOffset := 24 }, { name := "Zone", type := 3, offset := 4, embedded := false, tag := "", pkgPath := "", byteOffset := 32 }]),
    (48, Go.TypeDesc.struct #[{ name := "X", type := 3, offset := 0, embedded := false, tag := "", pkgPath := "", byteOffset := 0 }, { name := "W", type := 3, offset := 1, embedded := false, tag := "", pkgPath := "", byteOffset := 8 }, { name := "Kind", type := 3, offset := 2, embedded := false, tag := "", pkgPath := "", byteOffset := 16 }, { name := "Unit", type := 3, offset := 3, embedded := false, tag := "", pkgPath := "", byteOffset := 24 }, { name := "Zone", type := 3, offset := 4, embedded := false, tag := "", pkgPath := "", byteOffset := 32 }]),
    (49, Go.TypeDesc.slice 53),
    (50, Go.TypeDesc.tuple #[49, 28]),
    (51, Go.TypeDesc.func #[43, 3, 3, 3] #[49, 28] false),
    (52, Go.TypeDesc.struct #[{ name := "W", type := 3, offset := 0, embedded := false, tag := "", pkgPath := "", byteOffset := 0 }, { name := "H", type := 3, offset := 1, embedded := false, tag := "", pkgPath := "", byteOffset := 8 }, { name := "Pix", type := 22, offset := 2, embedded := false, tag := "", pkgPath := "", byteOffset := 16 }]),
    (53, Go.TypeDesc.struct #[{ name := "W", type := 3, offset := 0, embedded := false, tag := "", pkgPath := "", byteOffset := 0 }, { name := "H", type := 3, offset := 1, embedded := false, tag := "", pkgPath := "", byteOffset := 8 }, { name := "Pix", type := 22, offset := 2, embedded := false, tag := "", pkgPath := "", byteOffset := 16 }]),
    (54, Go.TypeDesc.func #[3, 3, 3, 3] #[4] false),
    (55, Go.TypeDesc.slice 24),
    (56, Go.TypeDesc.slice 63),
    (57, Go.TypeDesc.tuple #[56, 28]),
    (58, Go.TypeDesc.func #[43, 55] #[56, 28] false),
    (59, Go.TypeDesc.func #[43, 3, 3] #[28] false),
    (60, Go.TypeDesc.array 2 3),
    (61, Go.TypeDesc.array 2 48),
    (62, Go.TypeDesc.struct #[{ name := "Unit", type := 3, offset := 0, embedded := false, tag := "", pkgPath := "", byteOffset := 0 }, { name := "Zone", type := 3, offset := 1, embedded := false, tag := "", pkgPath := "", byteOffset := 8 }, { name := "Solid", type := 3, offset := 2, embedded := false, tag := "", pkgPath := "", byteOffset := 16 }, { name := "Tint", type := 3, offset := 3, embedded := false, tag := "", pkgPath := "", byteOffset := 24 }]),
    (63, Go.TypeDesc.struct #[{ name := "Unit", type := 3, offset := 0, embedded := false, tag := "", pkgPath := "", byteOffset := 0 }, { name := "Zone", type := 3, offset := 1, embedded := false, tag := "", pkgPath := "", byteOffset := 8 }, { name := "Solid", type := 3, offset := 2, embedded := false, tag := "", pkgPath := "", byteOffset := 16 }, { name := "Tint", type := 3, offset := 3, embedded := false, tag := "", pkgPath := "", byteOffset := 24 }]),
    (64, Go.TypeDesc.func #[43, 55] #[4] false),
    (65, Go.TypeDesc.func #[24, 3] #[24, 28] false),
    (66, Go.TypeDesc.func #[24, 3] #[24] false),
    (67, Go.TypeDesc.func #[24, 3, 3, 3] #[4] false),
    (68, Go.TypeDesc.tuple #[4, 28]),
    (69, Go.TypeDesc.func #[24, 3, 3] #[4, 28] false),
    (70, Go.TypeDesc.func #[24, 3, 3, 4] #[24, 28] false),
    (71, Go.TypeDesc.tuple #[3, 28]),
    (72, Go.TypeDesc.func #[24] #[3, 28] false),
    (73, Go.TypeDesc.func #[24, 3, 3, 4] #[4] false),
    (74, Go.TypeDesc.slice 77),
    (75, Go.TypeDesc.func #[3, 3, 74] #[24, 28] false),
    (76, Go.TypeDesc.struct #[{ name := "Y", type := 3, offset := 0, embedded := false, tag := "", pkgPath := "", byteOffset := 0 }, { name := "X0", type := 3, offset := 1, embedded := false, tag := "", pkgPath := "", byteOffset := 8 }, { name := "X1", type := 3, offset := 2, embedded := false, tag := "", pkgPath := "", byteOffset := 16 }]),
    (77, Go.TypeDesc.struct #[{ name := "Y", type := 3, offset := 0, embedded := false, tag := "", pkgPath := "", byteOffset := 0 }, { name := "X0", type := 3, offset := 1, embedded := false, tag := "", pkgPath := "", byteOffset := 8 }, { name := "X1", type := 3, offset := 2, embedded := false, tag := "", pkgPath := "", byteOffset := 16 }]),
    (78, Go.TypeDesc.func #[3, 3, 74] #[4] false),
    (79, Go.TypeDesc.func #[24, 3, 3, 3, 3] #[24, 28] false),
    (80, Go.TypeDesc.func #[24, 3, 3] #[24, 28] false),
    (81, Go.TypeDesc.func #[24, 3, 3, 3, 3] #[4] false),
    (82, Go.TypeDesc.func #[53, 3] #[24, 28] false),
    (83, Go.TypeDesc.func #[53] #[28] false),
    (84, Go.TypeDesc.tuple #[53, 28]),
    (85, Go.TypeDesc.func #[24, 5] #[53, 28] false),
    (86, Go.TypeDesc.func #[53, 3, 5] #[4] false),
    (87, Go.TypeDesc.struct #[{ name := "W", type := 3, offset := 0, embedded := false, tag := "", pkgPath := "", byteOffset := 0 }, { name := "H", type := 3, offset := 1, embedded := false, tag := "", pkgPath := "", byteOffset := 8 }, { name := "Pix", type := 22, offset := 2, embedded := false, tag := "", pkgPath := "", byteOffset := 16 }]),
    (88, Go.TypeDesc.func #[87, 87, 3] #[3, 28] false),
    (89, Go.TypeDesc.func #[87] #[28] false),
    (90, Go.TypeDesc.func #[87, 87, 3] #[4] false),
    (91, Go.TypeDesc.slice 3),
    (92, Go.TypeDesc.slice 27),
    (93, Go.TypeDesc.tuple #[87, 28]),
    (94, Go.TypeDesc.func #[55, 91, 92] #[87, 28] false),
    (95, Go.TypeDesc.func #[87, 28, 28] #[4] false),
    (96, Go.TypeDesc.func #[87, 3] #[24, 28] false),
    (97, Go.TypeDesc.func #[55, 91, 92, 3] #[4] false),
    (98, Go.TypeDesc.slice 102),
    (99, Go.TypeDesc.tuple #[91, 28]),
    (100, Go.TypeDesc.func #[87, 3] #[91, 28] false),
    (101, Go.TypeDesc.struct #[{ name := "L", type := 3, offset := 0, embedded := false, tag := "", pkgPath := "", byteOffset := 0 }, { name := "A", type := 3, offset := 1, embedded := false, tag := "", pkgPath := "", byteOffset := 8 }, { name := "B", type := 3, offset := 2, embedded := false, tag := "", pkgPath := "", byteOffset := 16 }]),
    (102, Go.TypeDesc.struct #[{ name := "L", type := 3, offset := 0, embedded := false, tag := "", pkgPath := "", byteOffset := 0 }, { name := "A", type := 3, offset := 1, embedded := false, tag := "", pkgPath := "", byteOffset := 8 }, { name := "B", type := 3, offset := 2, embedded := false, tag := "", pkgPath := "", byteOffset := 16 }]),
    (103, Go.TypeDesc.tuple #[102, 28]),
    (104, Go.TypeDesc.func #[87, 98] #[102, 28] false),
    (105, Go.TypeDesc.func #[102] #[28] false),
    (106, Go.TypeDesc.func #[87, 3, 98] #[4] false),
    (107, Go.TypeDesc.func #[22, 22] #[4] false),
    (108, Go.TypeDesc.func #[109, 3, 3] #[4] false),
    (109, Go.TypeDesc.pointer 24),
    (110, Go.TypeDesc.func #[3, 3] #[24] false),
    (111, Go.TypeDesc.func #[109, 3, 3] #[] false),
    (112, Go.TypeDesc.func #[109, 48] #[3] false),
    (113, Go.TypeDesc.func #[] #[24] false),
    (114, Go.TypeDesc.tuple #[74, 28]),
    (115, Go.TypeDesc.func #[24] #[74, 28] false),
    (116, Go.TypeDesc.func #[109, 3] #[24] false),
    (117, Go.TypeDesc.func #[3] #[3] false),
    (118, Go.TypeDesc.func #[5] #[3] false),
    (119, Go.TypeDesc.func #[3, 3, 120] #[24] false),
    (120, Go.TypeDesc.func #[3, 3] #[4] false),
    (121, Go.TypeDesc.func #[109, 3, 3] #[24] false),
    (122, Go.TypeDesc.func #[130] #[] false),
    (123, Go.TypeDesc.func #[130] #[] false),
    (124, Go.TypeDesc.func #[109, 3] #[123] false),
    (125, Go.TypeDesc.func #[] #[55] false),
    (126, Go.TypeDesc.func #[91, 91] #[4] false),
    (127, Go.TypeDesc.func #[128, 3, 3, 3] #[4] false),
    (128, Go.TypeDesc.pointer 87),
    (129, Go.TypeDesc.func #[55, 91, 92] #[28] false),
    (130, Go.TypeDesc.func #[77] #[4] false),
    (131, Go.TypeDesc.func #[] #[9] false),
    (132, Go.TypeDesc.struct #[{ name := "_interface", type := 17, offset := 0, embedded := false, tag := "", pkgPath := "runtime", byteOffset := 0 }, { name := "concrete", type := 17, offset := 1, embedded := false, tag := "", pkgPath := "runtime", byteOffset := 8 }, { name := "asserted", type := 17, offset := 2, embedded := false, tag := "", pkgPath := "runtime", byteOffset := 16 }, { name := "missingMethod", type := 9, offset := 3, embedded := false, tag := "", pkgPath := "runtime", byteOffset := 24 }]),
    (133, Go.TypeDesc.struct #[{ name := "_interface", type := 17, offset := 0, embedded := false, tag := "", pkgPath := "runtime", byteOffset := 0 }, { name := "concrete", type := 17, offset := 1, embedded := false, tag := "", pkgPath := "runtime", byteOffset := 8 }, { name := "asserted", type := 17, offset := 2, embedded := false, tag := "", pkgPath := "runtime", byteOffset := 16 }, { name := "missingMethod", type := 9, offset := 3, embedded := false, tag := "", pkgPath := "runtime", byteOffset := 24 }]),
    (134, Go.TypeDesc.array 0 16),
    (135, Go.TypeDesc.struct #[{ name := "_", type := 134, offset := 0, embedded := false, tag := "", pkgPath := "runtime", byteOffset := 0 }]),
    (136, Go.TypeDesc.struct #[{ name := "_", type := 134, offset := 0, embedded := false, tag := "", pkgPath := "runtime", byteOffset := 0 }]),
    (137, Go.TypeDesc.func #[] #[3] false),
    (138, Go.TypeDesc.int (Go.IntKind.u32)),
    (139, Go.TypeDesc.int (Go.IntKind.u8)),
    (140, Go.TypeDesc.int (Go.IntKind.u8)),
    (141, Go.TypeDesc.func #[147, 147] #[4] false),
    (142, Go.TypeDesc.pointer 5),
    (143, Go.TypeDesc.int (Go.IntKind.i32)),
    (144, Go.TypeDesc.int (Go.IntKind.i32)),
    (145, Go.TypeDesc.struct #[{ name := "Size_", type := 12, offset := 0, embedded := false, tag := "", pkgPath := "", byteOffset := 0 }, { name := "PtrBytes", type := 12, offset := 1, embedded := false, tag := "", pkgPath := "", byteOffset := 8 }, { name := "Hash", type := 138, offset := 2, embedded := false, tag := "", pkgPath := "", byteOffset := 16 }, { name := "TFlag", type := 139, offset := 3, embedded := false, tag := "", pkgPath := "", byteOffset := 20 }, { name := "Align_", type := 5, offset := 4, embedded := false, tag := "", pkgPath := "", byteOffset := 21 }, { name := "FieldAlign_", type := 5, offset := 5, embedded := false, tag := "", pkgPath := "", byteOffset := 22 }, { name := "Kind_", type := 140, offset := 6, embedded := false, tag := "", pkgPath := "", byteOffset := 23 }, { name := "Equal", type := 141, offset := 7, embedded := false, tag := "", pkgPath := "", byteOffset := 24 }, { name := "GCData", type := 142, offset := 8, embedded := false, tag := "", pkgPath := "", byteOffset := 32 }, { name := "Str", type := 143, offset := 9, embedded := false, tag := "", pkgPath := "", byteOffset := 40 }, { name := "PtrToThis", type := 144, offset := 10, embedded := false, tag := "", pkgPath := "", byteOffset := 44 }]),
    (146, Go.TypeDesc.struct #[{ name := "Size_", type := 12, offset := 0, embedded := false, tag := "", pkgPath := "", byteOffset := 0 }, { name := "PtrBytes", type := 12, offset := 1, embedded := false, tag := "", pkgPath := "", byteOffset := 8 }, { name := "Hash", type := 138, offset := 2, embedded := false, tag := "", pkgPath := "", byteOffset := 16 }, { name := "TFlag", type := 139, offset := 3, embedded := false, tag := "", pkgPath := "", byteOffset := 20 }, { name := "Align_", type := 5, offset := 4, embedded := false, tag := "", pkgPath := "", byteOffset := 21 }, { name := "FieldAlign_", type := 5, offset := 5, embedded := false, tag := "", pkgPath := "", byteOffset := 22 }, { name := "Kind_", type := 140, offset := 6, embedded := false, tag := "", pkgPath := "", byteOffset := 23 }, { name := "Equal", type := 141, offset := 7, embedded := false, tag := "", pkgPath := "", byteOffset := 24 }, { name := "GCData", type := 142, offset := 8, embedded := false, tag := "", pkgPath := "", byteOffset := 32 }, { name := "Str", type := 143, offset := 9, embedded := false, tag := "", pkgPath := "", byteOffset := 40 }, { name := "PtrToThis", type := 144, offset := 10, embedded := false, tag := "", pkgPath := "", byteOffset := 44 }]),
    (147, Go.TypeDesc.unsafePointer)],
  inf := [(1, (some (.nilFunc), 1, 8)),
    (2, (some (.int .i64 0), 1, 8)),
    (3, (some (.int .i64 0), 1, 8)),
    (4, (some (.bool false), 1, 1)),
    (5, (some (.int .u8 0), 1, 1)),
    (6, (some (.int .u8 0), 1, 1)),
    (7, (some (.agg #[.int .i64 0, .int .i64 0, .bool false, .int .u8 0]), 4, 24)),
    (8, (some (.agg #[.int .i64 0, .int .i64 0, .bool false, .int .u8 0]), 4, 24)),
    (9, (some (.string ByteArray.empty), 1, 16)),
    (10, (some (.string ByteArray.empty), 1, 16)),
    (11, (some (.string ByteArray.empty), 1, 16)),
    (12, (some (.int .u64 0), 1, 8)),
    (13, (some (.agg #[.string ByteArray.empty, .int .u64 0]), 2, 24)),
    (14, (some (.agg #[.string ByteArray.empty, .int .u64 0]), 2, 24)),
    (15, (some (.pointer none), 1, 8)),
    (16, (some (.pointer none), 1, 8)),
    (17, (some (.pointer none), 1, 8)),
    (18, (some (.agg #[.pointer none]), 1, 8)),
    (19, (some (.agg #[.pointer none]), 1, 8)),
    (20, (some (.nilIface), 1, 16)),
    (21, (some (.int .i32 0), 1, 4)),
    (22, (some (.slice none 0 0), 1, 24)),
    (23, (some (.agg #[.int .i64 0, .int .i64 0, .slice none 0 0]), 3, 40)),
    (24, (some (.agg #[.int .i64 0, .int .i64 0, .slice none 0 0]), 3, 40)),
    (25, (some (.nilFunc), 1, 8)),
    (26, (some (.agg #[.int .i64 0, .int .i64 0]), 2, 16)),
    (27, (some (.agg #[.int .i64 0, .int .i64 0]), 2, 16)),
    (28, (some (.int .i64 0), 1, 8)),
    (30, (some (.nilFunc), 1, 8)),
    (32, (some (.nilFunc), 1, 8)),
    (33, (some (.nilFunc), 1, 8)),
    (34, (some (.nilFunc), 1, 8)),
    (35, (some (.slice none 0 0), 1, 24)),
    (36, (some (.nilFunc), 1, 8)),
    (37, (some (.nilFunc), 1, 8)),
    (38, (some (.nilFunc), 1, 8)),
    (39, (some (.nilFunc), 1, 8)),
    (40, (some (.nilFunc), 1, 8)),
    (41, (some (.nilFunc), 1, 8)),
    (42, (some (.nilFunc), 1, 8)),
    (43, (some (.slice none 0 0), 1, 24)),
    (45, (some (.nilFunc), 1, 8)),
    (46, (some (.nilFunc), 1, 8)),
    (47, (some (.agg #[.int .i64 0, .int .i64 0, .int .i64 0, .int .i64 0, .int .i64 0]), 5, 40)),
    (48, (some (.agg #[.int .i64 0, .int .i64 0, .int .i64 0, .int .i64 0, .int .i64 0]), 5, 40)),
    (49, (some (.slice none 0 0), 1, 24)),
    (51, (some (.nilFunc), 1, 8)),
    (52, (some (.agg #[.int .i64 0, .int .i64 0, .slice none 0 0]), 3, 40)),
    (53, (some (.agg #[.int .i64 0, .int .i64 0, .slice none 0 0]), 3, 40)),
    (54, (some (.nilFunc), 1, 8)),
    (55, (some (.slice none 0 0), 1, 24)),
    (56, (some (.slice none 0 0), 1, 24)),
    (58, (some (.nilFunc), 1, 8)),
    (59, (some (.nilFunc), 1, 8)),
    (60, (some (.agg #[.int .i64 0, .int .i64 0]), 2, 16)),
    (61, (some (.agg #[.int .i64 0, .int .i64 0, .int .i64 0, .int .i64 0, .int .i64 0, .int .i64 0, .int .i64 0, .int .i64 0, .int .i64 0, .int .i64 0]), 10, 80)),
    (62, (some (.agg #[.int .i64 0, .int .i64 0, .int .i64 0, .int .i64 0]), 4, 32)),
    (63, (some (.agg #[.int .i64 0, .int .i64 0, .int .i64 0, .int .i64 0]), 4, 32)),
    (64, (some (.nilFunc), 1, 8)),
    (65, (some (.nilFunc), 1, 8)),
    (66, (some (.nilFunc), 1, 8)),
    (67, (some (.nilFunc), 1, 8)),
    (69, (some (.nilFunc), 1, 8)),
    (70, (some (.nilFunc), 1, 8)),
    (72, (some (.nilFunc), 1, 8)),
    (73, (some (.nilFunc), 1, 8)),
    (74, (some (.slice none 0 0), 1, 24)),
    (75, (some (.nilFunc), 1, 8)),
    (76, (some (.agg #[.int .i64 0, .int .i64 0, .int .i64 0]), 3, 24)),
    (77, (some (.agg #[.int .i64 0, .int .i64 0, .int .i64 0]), 3, 24)),
    (78, (some (.nilFunc), 1, 8)),
    (79, (some (.nilFunc), 1, 8)),
    (80, (some (.nilFunc), 1, 8)),
    (81, (some (.nilFunc), 1, 8)),
    (82, (some (.nilFunc), 1, 8)),
    (83, (some (.nilFunc), 1, 8)),
    (85, (some (.nilFunc), 1, 8)),
    (86, (some (.nilFunc), 1, 8)),
    (87, (some (.agg #[.int .i64 0, .int .i64 0, .slice none 0 0]), 3, 40)),
    (88, (some (.nilFunc), 1, 8)),
    (89, (some (.nilFunc), 1, 8)),
    (90, (some (.nilFunc), 1, 8)),
    (91, (some (.slice none 0 0), 1, 24)),
    (92, (some (.slice none 0 0), 1, 24)),
    (94, (some (.nilFunc), 1, 8)),
    (95, (some (.nilFunc), 1, 8)),
    (96, (some (.nilFunc), 1, 8)),
    (97, (some (.nilFunc), 1, 8)),
    (98, (some (.slice none 0 0), 1, 24)),
    (100, (some (.nilFunc), 1, 8)),
    (101, (some (.agg #[.int .i64 0, .int .i64 0, .int .i64 0]), 3, 24)),
    (102, (some (.agg #[.int .i64 0, .int .i64 0, .int .i64 0]), 3, 24)),
    (104, (some (.nilFunc), 1, 8)),
    (105, (some (.nilFunc), 1, 8)),
    (106, (some (.nilFunc), 1, 8)),
    (107, (some (.nilFunc), 1, 8)),
    (108, (some (.nilFunc), 1, 8)),
    (109, (some (.pointer none), 1, 8)),
    (110, (some (.nilFunc), 1, 8)),
    (111, (some (.nilFunc), 1, 8)),
    (112, (some (.nilFunc), 1, 8)),
    (113, (some (.nilFunc), 1, 8)),
    (115, (some (.nilFunc), 1, 8)),
    (116, (some (.nilFunc), 1, 8)),
    (117, (some (.nilFunc), 1, 8)),
    (118, (some (.nilFunc), 1, 8)),
    (119, (some (.nilFunc), 1, 8)),
    (120, (some (.nilFunc), 1, 8)),
    (121, (some (.nilFunc), 1, 8)),
    (122, (some (.nilFunc), 1, 8)),
    (123, (some (.nilFunc), 1, 8)),
    (124, (some (.nilFunc), 1, 8)),
    (125, (some (.nilFunc), 1, 8)),
    (126, (some (.nilFunc), 1, 8)),
    (127, (some (.nilFunc), 1, 8)),
    (128, (some (.pointer none), 1, 8)),
    (129, (some (.nilFunc), 1, 8)),
    (130, (some (.nilFunc), 1, 8)),
    (131, (some (.nilFunc), 1, 8)),
    (132, (some (.agg #[.pointer none, .pointer none, .pointer none, .string ByteArray.empty]), 4, 40)),
    (133, (some (.agg #[.pointer none, .pointer none, .pointer none, .string ByteArray.empty]), 4, 40)),
    (134, (some (.agg #[]), 0, 0)),
    (135, (some (.agg #[]), 0, 0)),
    (136, (some (.agg #[]), 0, 0)),
    (137, (some (.nilFunc), 1, 8)),
    (138, (some (.int .u32 0), 1, 4)),
    (139, (some (.int .u8 0), 1, 1)),
    (140, (some (.int .u8 0), 1, 1)),
    (141, (some (.nilFunc), 1, 8)),
    (142, (some (.pointer none), 1, 8)),
    (143, (some (.int .i32 0), 1, 4)),
    (144, (some (.int .i32 0), 1, 4)),
    (145, (some (.agg #[.int .u64 0, .int .u64 0, .int .u32 0, .int .u8 0, .int .u8 0, .int .u8 0, .int .u8 0, .nilFunc, .pointer none, .int .i32 0, .int .i32 0]), 11, 48)),
    (146, (some (.agg #[.int .u64 0, .int .u64 0, .int .u32 0, .int .u8 0, .int .u8 0, .int .u8 0, .int .u8 0, .nilFunc, .pointer none, .int .i32 0, .int .i32 0]), 11, 48)),
    (147, (some (.pointer none), 1, 8))],
  fld := [(7, [(0, (1, false)), (1, (1, false)), (2, (1, false)), (3, (1, false))]),
    (8, [(0, (1, false)), (1, (1, false)), (2, (1, false)), (3, (1, false))]),
    (13, [(0, (1, false)), (1, (1, false))]),
    (14, [(0, (1, false)), (1, (1, false))]),
    (18, [(0, (1, false))]),
    (19, [(0, (1, false))]),
    (23, [(0, (1, false)), (1, (1, false)), (2, (1, false))]),
    (24, [(0, (1, false)), (1, (1, false)), (2, (1, false))]),
    (26, [(0, (1, false)), (1, (1, false))]),
    (27, [(0, (1, false)), (1, (1, false))]),
    (47, [(0, (1, false)), (1, (1, false)), (2, (1, false)), (3, (1, false)), (4, (1, false))]),
    (48, [(0, (1, false)), (1, (1, false)), (2, (1, false)), (3, (1, false)), (4, (1, false))]),
    (52, [(0, (1, false)), (1, (1, false)), (2, (1, false))]),
    (53, [(0, (1, false)), (1, (1, false)), (2, (1, false))]),
    (62, [(0, (1, false)), (1, (1, false)), (2, (1, false)), (3, (1, false))]),
    (63, [(0, (1, false)), (1, (1, false)), (2, (1, false)), (3, (1, false))]),
    (76, [(0, (1, false)), (1, (1, false)), (2, (1, false))]),
    (77, [(0, (1, false)), (1, (1, false)), (2, (1, false))]),
    (87, [(0, (1, false)), (1, (1, false)), (2, (1, false))]),
    (101, [(0, (1, false)), (1, (1, false)), (2, (1, false))]),
    (102, [(0, (1, false)), (1, (1, false)), (2, (1, false))]),
    (132, [(0, (1, false)), (1, (1, false)), (2, (1, false)), (3, (1, false))]),
    (133, [(0, (1, false)), (1, (1, false)), (2, (1, false)), (3, (1, false))]),
    (135, [(0, (0, true))]),
    (136, [(0, (0, true))]),
    (145, [(0, (1, false)), (1, (1, false)), (2, (1, false)), (3, (1, false)), (4, (1, false)), (5, (1, false)), (6, (1, false)), (7, (1, false)), (8, (1, false)), (9, (1, false)), (10, (1, false))]),
    (146, [(0, (1, false)), (1, (1, false)), (2, (1, false)), (3, (1, false)), (4, (1, false)), (5, (1, false)), (6, (1, false)), (7, (1, false)), (8, (1, false)), (9, (1, false)), (10, (1, false))])],
  eqs := [(26, 2), (27, 2), (47, 5), (48, 5), (62, 4), (63, 4), (76, 3), (77, 3), (101, 3), (102, 3)] }
theorem ty_1 : tyI Try.prog 1 = some (some (.nilFunc), 1, 8) := by kernel_rfl
theorem ty_2 : tyI Try.prog 2 = some (some (.int .i64 0), 1, 8) := by kernel_rfl
theorem ty_3 : tyI Try.prog 3 = some (some (.int .i64 0), 1, 8) := by kernel_rfl
theorem ty_4 : tyI Try.prog 4 = some (some (.bool false), 1, 1) := by kernel_rfl
theorem ty_5 : tyI Try.prog 5 = some (some (.int .u8 0), 1, 1) := by kernel_rfl
theorem ty_6 : tyI Try.prog 6 = some (some (.int .u8 0), 1, 1) := by kernel_rfl
theorem ty_7 : tyI Try.prog 7 = some (some (.agg #[.int .i64 0, .int .i64 0, .bool false, .int .u8 0]), 4, 24) := by kernel_rfl
theorem ty_8 : tyI Try.prog 8 = some (some (.agg #[.int .i64 0, .int .i64 0, .bool false, .int .u8 0]), 4, 24) := by kernel_rfl
theorem ty_9 : tyI Try.prog 9 = some (some (.string ByteArray.empty), 1, 16) := by kernel_rfl
theorem ty_10 : tyI Try.prog 10 = some (some (.string ByteArray.empty), 1, 16) := by kernel_rfl
theorem ty_11 : tyI Try.prog 11 = some (some (.string ByteArray.empty), 1, 16) := by kernel_rfl
theorem ty_12 : tyI Try.prog 12 = some (some (.int .u64 0), 1, 8) := by kernel_rfl
theorem ty_13 : tyI Try.prog 13 = some (some (.agg #[.string ByteArray.empty, .int .u64 0]), 2, 24) := by kernel_rfl
theorem ty_14 : tyI Try.prog 14 = some (some (.agg #[.string ByteArray.empty, .int .u64 0]), 2, 24) := by kernel_rfl
theorem ty_15 : tyI Try.prog 15 = some (some (.pointer none), 1, 8) := by kernel_rfl
theorem ty_16 : tyI Try.prog 16 = some (some (.pointer none), 1, 8) := by kernel_rfl
theorem ty_17 : tyI Try.prog 17 = some (some (.pointer none), 1, 8) := by kernel_rfl
theorem ty_18 : tyI Try.prog 18 = some (some (.agg #[.pointer none]), 1, 8) := by kernel_rfl
theorem ty_19 : tyI Try.prog 19 = some (some (.agg #[.pointer none]), 1, 8) := by kernel_rfl
theorem ty_20 : tyI Try.prog 20 = some (some (.nilIface), 1, 16) := by kernel_rfl
theorem ty_21 : tyI Try.prog 21 = some (some (.int .i32 0), 1, 4) := by kernel_rfl
theorem ty_22 : tyI Try.prog 22 = some (some (.slice none 0 0), 1, 24) := by kernel_rfl
theorem ty_23 : tyI Try.prog 23 = some (some (.agg #[.int .i64 0, .int .i64 0, .slice none 0 0]), 3, 40) := by kernel_rfl
theorem ty_24 : tyI Try.prog 24 = some (some (.agg #[.int .i64 0, .int .i64 0, .slice none 0 0]), 3, 40) := by kernel_rfl
theorem ty_25 : tyI Try.prog 25 = some (some (.nilFunc), 1, 8) := by kernel_rfl
theorem ty_26 : tyI Try.prog 26 = some (some (.agg #[.int .i64 0, .int .i64 0]), 2, 16) := by kernel_rfl
theorem ty_27 : tyI Try.prog 27 = some (some (.agg #[.int .i64 0, .int .i64 0]), 2, 16) := by kernel_rfl
theorem ty_28 : tyI Try.prog 28 = some (some (.int .i64 0), 1, 8) := by kernel_rfl
theorem ty_30 : tyI Try.prog 30 = some (some (.nilFunc), 1, 8) := by kernel_rfl
theorem ty_32 : tyI Try.prog 32 = some (some (.nilFunc), 1, 8) := by kernel_rfl
theorem ty_33 : tyI Try.prog 33 = some (some (.nilFunc), 1, 8) := by kernel_rfl
theorem ty_34 : tyI Try.prog 34 = some (some (.nilFunc), 1, 8) := by kernel_rfl
theorem ty_35 : tyI Try.prog 35 = some (some (.slice none 0 0), 1, 24) := by kernel_rfl
theorem ty_36 : tyI Try.prog 36 = some (some (.nilFunc), 1, 8) := by kernel_rfl
theorem ty_37 : tyI Try.prog 37 = some (some (.nilFunc), 1, 8) := by kernel_rfl
theorem ty_38 : tyI Try.prog 38 = some (some (.nilFunc), 1, 8) := by kernel_rfl
theorem ty_39 : tyI Try.prog 39 = some (some (.nilFunc), 1, 8) := by kernel_rfl
theorem ty_40 : tyI Try.prog 40 = some (some (.nilFunc), 1, 8) := by kernel_rfl
theorem ty_41 : tyI Try.prog 41 = some (some (.nilFunc), 1, 8) := by kernel_rfl
theorem ty_42 : tyI Try.prog 42 = some (some (.nilFunc), 1, 8) := by kernel_rfl
theorem ty_43 : tyI Try.prog 43 = some (some (.slice none 0 0), 1, 24) := by kernel_rfl
theorem ty_45 : tyI Try.prog 45 = some (some (.nilFunc), 1, 8) := by kernel_rfl
theorem ty_46 : tyI Try.prog 46 = some (some (.nilFunc), 1, 8) := by kernel_rfl
theorem ty_47 : tyI Try.prog 47 = some (some (.agg #[.int .i64 0, .int .i64 0, .int .i64 0, .int .i64 0, .int .i64 0]), 5, 40) := by kernel_rfl
theorem ty_48 : tyI Try.prog 48 = some (some (.agg #[.int .i64 0, .int .i64 0, .int .i64 0, .int .i64 0, .int .i64 0]), 5, 40) := by kernel_rfl
theorem ty_49 : tyI Try.prog 49 = some (some (.slice none 0 0), 1, 24) := by kernel_rfl
theorem ty_51 : tyI Try.prog 51 = some (some (.nilFunc), 1, 8) := by kernel_rfl
theorem ty_52 : tyI Try.prog 52 = some (some (.agg #[.int .i64 0, .int .i64 0, .slice none 0 0]), 3, 40) := by kernel_rfl
theorem ty_53 : tyI Try.prog 53 = some (some (.agg #[.int .i64 0, .int .i64 0, .slice none 0 0]), 3, 40) := by kernel_rfl
theorem ty_54 : tyI Try.prog 54 = some (some (.nilFunc), 1, 8) := by kernel_rfl
theorem ty_55 : tyI Try.prog 55 = some (some (.slice none 0 0), 1, 24) := by kernel_rfl
theorem ty_56 : tyI Try.prog 56 = some (some (.slice none 0 0), 1, 24) := by kernel_rfl
theorem ty_58 : tyI Try.prog 58 = some (some (.nilFunc), 1, 8) := by kernel_rfl
theorem ty_59 : tyI Try.prog 59 = some (some (.nilFunc), 1, 8) := by kernel_rfl
theorem ty_60 : tyI Try.prog 60 = some (some (.agg #[.int .i64 0, .int .i64 0]), 2, 16) := by kernel_rfl
theorem ty_61 : tyI Try.prog 61 = some (some (.agg #[.int .i64 0, .int .i64 0, .int .i64 0, .int .i64 0, .int .i64 0, .int .i64 0, .int .i64 0, .int .i64 0, .int .i64 0, .int .i64 0]), 10, 80) := by kernel_rfl
theorem ty_62 : tyI Try.prog 62 = some (some (.agg #[.int .i64 0, .int .i64 0, .int .i64 0, .int .i64 0]), 4, 32) := by kernel_rfl
theorem ty_63 : tyI Try.prog 63 = some (some (.agg #[.int .i64 0, .int .i64 0, .int .i64 0, .int .i64 0]), 4, 32) := by kernel_rfl
theorem ty_64 : tyI Try.prog 64 = some (some (.nilFunc), 1, 8) := by kernel_rfl
theorem ty_65 : tyI Try.prog 65 = some (some (.nilFunc), 1, 8) := by kernel_rfl
theorem ty_66 : tyI Try.prog 66 = some (some (.nilFunc), 1, 8) := by kernel_rfl
theorem ty_67 : tyI Try.prog 67 = some (some (.nilFunc), 1, 8) := by kernel_rfl
theorem ty_69 : tyI Try.prog 69 = some (some (.nilFunc), 1, 8) := by kernel_rfl
theorem ty_70 : tyI Try.prog 70 = some (some (.nilFunc), 1, 8) := by kernel_rfl
theorem ty_72 : tyI Try.prog 72 = some (some (.nilFunc), 1, 8) := by kernel_rfl
theorem ty_73 : tyI Try.prog 73 = some (some (.nilFunc), 1, 8) := by kernel_rfl
theorem ty_74 : tyI Try.prog 74 = some (some (.slice none 0 0), 1, 24) := by kernel_rfl
theorem ty_75 : tyI Try.prog 75 = some (some (.nilFunc), 1, 8) := by kernel_rfl
theorem ty_76 : tyI Try.prog 76 = some (some (.agg #[.int .i64 0, .int .i64 0, .int .i64 0]), 3, 24) := by kernel_rfl
theorem ty_77 : tyI Try.prog 77 = some (some (.agg #[.int .i64 0, .int .i64 0, .int .i64 0]), 3, 24) := by kernel_rfl
theorem ty_78 : tyI Try.prog 78 = some (some (.nilFunc), 1, 8) := by kernel_rfl
theorem ty_79 : tyI Try.prog 79 = some (some (.nilFunc), 1, 8) := by kernel_rfl
theorem ty_80 : tyI Try.prog 80 = some (some (.nilFunc), 1, 8) := by kernel_rfl
theorem ty_81 : tyI Try.prog 81 = some (some (.nilFunc), 1, 8) := by kernel_rfl
theorem ty_82 : tyI Try.prog 82 = some (some (.nilFunc), 1, 8) := by kernel_rfl
theorem ty_83 : tyI Try.prog 83 = some (some (.nilFunc), 1, 8) := by kernel_rfl
theorem ty_85 : tyI Try.prog 85 = some (some (.nilFunc), 1, 8) := by kernel_rfl
theorem ty_86 : tyI Try.prog 86 = some (some (.nilFunc), 1, 8) := by kernel_rfl
theorem ty_87 : tyI Try.prog 87 = some (some (.agg #[.int .i64 0, .int .i64 0, .slice none 0 0]), 3, 40) := by kernel_rfl
theorem ty_88 : tyI Try.prog 88 = some (some (.nilFunc), 1, 8) := by kernel_rfl
theorem ty_89 : tyI Try.prog 89 = some (some (.nilFunc), 1, 8) := by kernel_rfl
theorem ty_90 : tyI Try.prog 90 = some (some (.nilFunc), 1, 8) := by kernel_rfl
theorem ty_91 : tyI Try.prog 91 = some (some (.slice none 0 0), 1, 24) := by kernel_rfl
theorem ty_92 : tyI Try.prog 92 = some (some (.slice none 0 0), 1, 24) := by kernel_rfl
theorem ty_94 : tyI Try.prog 94 = some (some (.nilFunc), 1, 8) := by kernel_rfl
theorem ty_95 : tyI Try.prog 95 = some (some (.nilFunc), 1, 8) := by kernel_rfl
theorem ty_96 : tyI Try.prog 96 = some (some (.nilFunc), 1, 8) := by kernel_rfl
theorem ty_97 : tyI Try.prog 97 = some (some (.nilFunc), 1, 8) := by kernel_rfl
theorem ty_98 : tyI Try.prog 98 = some (some (.slice none 0 0), 1, 24) := by kernel_rfl
theorem ty_100 : tyI Try.prog 100 = some (some (.nilFunc), 1, 8) := by kernel_rfl
theorem ty_101 : tyI Try.prog 101 = some (some (.agg #[.int .i64 0, .int .i64 0, .int .i64 0]), 3, 24) := by kernel_rfl
theorem ty_102 : tyI Try.prog 102 = some (some (.agg #[.int .i64 0, .int .i64 0, .int .i64 0]), 3, 24) := by kernel_rfl
theorem ty_104 : tyI Try.prog 104 = some (some (.nilFunc), 1, 8) := by kernel_rfl
theorem ty_105 : tyI Try.prog 105 = some (some (.nilFunc), 1, 8) := by kernel_rfl
theorem ty_106 : tyI Try.prog 106 = some (some (.nilFunc), 1, 8) := by kernel_rfl
theorem ty_107 : tyI Try.prog 107 = some (some (.nilFunc), 1, 8) := by kernel_rfl
theorem ty_108 : tyI Try.prog 108 = some (some (.nilFunc), 1, 8) := by kernel_rfl
theorem ty_109 : tyI Try.prog 109 = some (some (.pointer none), 1, 8) := by kernel_rfl
theorem ty_110 : tyI Try.prog 110 = some (some (.nilFunc), 1, 8) := by kernel_rfl
theorem ty_111 : tyI Try.prog 111 = some (some (.nilFunc), 1, 8) := by kernel_rfl
theorem ty_112 : tyI Try.prog 112 = some (some (.nilFunc), 1, 8) := by kernel_rfl
theorem ty_113 : tyI Try.prog 113 = some (some (.nilFunc), 1, 8) := by kernel_rfl
theorem ty_115 : tyI Try.prog 115 = some (some (.nilFunc), 1, 8) := by kernel_rfl
theorem ty_116 : tyI Try.prog 116 = some (some (.nilFunc), 1, 8) := by kernel_rfl
theorem ty_117 : tyI Try.prog 117 = some (some (.nilFunc), 1, 8) := by kernel_rfl
theorem ty_118 : tyI Try.prog 118 = some (some (.nilFunc), 1, 8) := by kernel_rfl
theorem ty_119 : tyI Try.prog 119 = some (some (.nilFunc), 1, 8) := by kernel_rfl
theorem ty_120 : tyI Try.prog 120 = some (some (.nilFunc), 1, 8) := by kernel_rfl
theorem ty_121 : tyI Try.prog 121 = some (some (.nilFunc), 1, 8) := by kernel_rfl
theorem ty_122 : tyI Try.prog 122 = some (some (.nilFunc), 1, 8) := by kernel_rfl
theorem ty_123 : tyI Try.prog 123 = some (some (.nilFunc), 1, 8) := by kernel_rfl
theorem ty_124 : tyI Try.prog 124 = some (some (.nilFunc), 1, 8) := by kernel_rfl
theorem ty_125 : tyI Try.prog 125 = some (some (.nilFunc), 1, 8) := by kernel_rfl
theorem ty_126 : tyI Try.prog 126 = some (some (.nilFunc), 1, 8) := by kernel_rfl
theorem ty_127 : tyI Try.prog 127 = some (some (.nilFunc), 1, 8) := by kernel_rfl
theorem ty_128 : tyI Try.prog 128 = some (some (.pointer none), 1, 8) := by kernel_rfl
theorem ty_129 : tyI Try.prog 129 = some (some (.nilFunc), 1, 8) := by kernel_rfl
theorem ty_130 : tyI Try.prog 130 = some (some (.nilFunc), 1, 8) := by kernel_rfl
theorem ty_131 : tyI Try.prog 131 = some (some (.nilFunc), 1, 8) := by kernel_rfl
theorem ty_132 : tyI Try.prog 132 = some (some (.agg #[.pointer none, .pointer none, .pointer none, .string ByteArray.empty]), 4, 40) := by kernel_rfl
theorem ty_133 : tyI Try.prog 133 = some (some (.agg #[.pointer none, .pointer none, .pointer none, .string ByteArray.empty]), 4, 40) := by kernel_rfl
theorem ty_134 : tyI Try.prog 134 = some (some (.agg #[]), 0, 0) := by kernel_rfl
theorem ty_135 : tyI Try.prog 135 = some (some (.agg #[]), 0, 0) := by kernel_rfl
theorem ty_136 : tyI Try.prog 136 = some (some (.agg #[]), 0, 0) := by kernel_rfl
theorem ty_137 : tyI Try.prog 137 = some (some (.nilFunc), 1, 8) := by kernel_rfl
theorem ty_138 : tyI Try.prog 138 = some (some (.int .u32 0), 1, 4) := by kernel_rfl
theorem ty_139 : tyI Try.prog 139 = some (some (.int .u8 0), 1, 1) := by kernel_rfl
theorem ty_140 : tyI Try.prog 140 = some (some (.int .u8 0), 1, 1) := by kernel_rfl
theorem ty_141 : tyI Try.prog 141 = some (some (.nilFunc), 1, 8) := by kernel_rfl
theorem ty_142 : tyI Try.prog 142 = some (some (.pointer none), 1, 8) := by kernel_rfl
theorem ty_143 : tyI Try.prog 143 = some (some (.int .i32 0), 1, 4) := by kernel_rfl
theorem ty_144 : tyI Try.prog 144 = some (some (.int .i32 0), 1, 4) := by kernel_rfl
theorem ty_145 : tyI Try.prog 145 = some (some (.agg #[.int .u64 0, .int .u64 0, .int .u32 0, .int .u8 0, .int .u8 0, .int .u8 0, .int .u8 0, .nilFunc, .pointer none, .int .i32 0, .int .i32 0]), 11, 48) := by kernel_rfl
theorem ty_146 : tyI Try.prog 146 = some (some (.agg #[.int .u64 0, .int .u64 0, .int .u32 0, .int .u8 0, .int .u8 0, .int .u8 0, .int .u8 0, .nilFunc, .pointer none, .int .i32 0, .int .i32 0]), 11, 48) := by kernel_rfl
theorem ty_147 : tyI Try.prog 147 = some (some (.pointer none), 1, 8) := by kernel_rfl
theorem fl_7 : fieldsP Try.prog 7 = some [(0, (1, false)), (1, (1, false)), (2, (1, false)), (3, (1, false))] := by kernel_rfl
theorem fl_8 : fieldsP Try.prog 8 = some [(0, (1, false)), (1, (1, false)), (2, (1, false)), (3, (1, false))] := by kernel_rfl
theorem fl_13 : fieldsP Try.prog 13 = some [(0, (1, false)), (1, (1, false))] := by kernel_rfl
theorem fl_14 : fieldsP Try.prog 14 = some [(0, (1, false)), (1, (1, false))] := by kernel_rfl
theorem fl_18 : fieldsP Try.prog 18 = some [(0, (1, false))] := by kernel_rfl
theorem fl_19 : fieldsP Try.prog 19 = some [(0, (1, false))] := by kernel_rfl
theorem fl_23 : fieldsP Try.prog 23 = some [(0, (1, false)), (1, (1, false)), (2, (1, false))] := by kernel_rfl
theorem fl_24 : fieldsP Try.prog 24 = some [(0, (1, false)), (1, (1, false)), (2, (1, false))] := by kernel_rfl
theorem fl_26 : fieldsP Try.prog 26 = some [(0, (1, false)), (1, (1, false))] := by kernel_rfl
theorem fl_27 : fieldsP Try.prog 27 = some [(0, (1, false)), (1, (1, false))] := by kernel_rfl
theorem fl_47 : fieldsP Try.prog 47 = some [(0, (1, false)), (1, (1, false)), (2, (1, false)), (3, (1, false)), (4, (1, false))] := by kernel_rfl
theorem fl_48 : fieldsP Try.prog 48 = some [(0, (1, false)), (1, (1, false)), (2, (1, false)), (3, (1, false)), (4, (1, false))] := by kernel_rfl
theorem fl_52 : fieldsP Try.prog 52 = some [(0, (1, false)), (1, (1, false)), (2, (1, false))] := by kernel_rfl
theorem fl_53 : fieldsP Try.prog 53 = some [(0, (1, false)), (1, (1, false)), (2, (1, false))] := by kernel_rfl
theorem fl_62 : fieldsP Try.prog 62 = some [(0, (1, false)), (1, (1, false)), (2, (1, false)), (3, (1, false))] := by kernel_rfl
theorem fl_63 : fieldsP Try.prog 63 = some [(0, (1, false)), (1, (1, false)), (2, (1, false)), (3, (1, false))] := by kernel_rfl
theorem fl_76 : fieldsP Try.prog 76 = some [(0, (1, false)), (1, (1, false)), (2, (1, false))] := by kernel_rfl
theorem fl_77 : fieldsP Try.prog 77 = some [(0, (1, false)), (1, (1, false)), (2, (1, false))] := by kernel_rfl
theorem fl_87 : fieldsP Try.prog 87 = some [(0, (1, false)), (1, (1, false)), (2, (1, false))] := by kernel_rfl
theorem fl_101 : fieldsP Try.prog 101 = some [(0, (1, false)), (1, (1, false)), (2, (1, false))] := by kernel_rfl
theorem fl_102 : fieldsP Try.prog 102 = some [(0, (1, false)), (1, (1, false)), (2, (1, false))] := by kernel_rfl
theorem fl_132 : fieldsP Try.prog 132 = some [(0, (1, false)), (1, (1, false)), (2, (1, false)), (3, (1, false))] := by kernel_rfl
theorem fl_133 : fieldsP Try.prog 133 = some [(0, (1, false)), (1, (1, false)), (2, (1, false)), (3, (1, false))] := by kernel_rfl
theorem fl_135 : fieldsP Try.prog 135 = some [(0, (0, true))] := by kernel_rfl
theorem fl_136 : fieldsP Try.prog 136 = some [(0, (0, true))] := by kernel_rfl
theorem fl_145 : fieldsP Try.prog 145 = some [(0, (1, false)), (1, (1, false)), (2, (1, false)), (3, (1, false)), (4, (1, false)), (5, (1, false)), (6, (1, false)), (7, (1, false)), (8, (1, false)), (9, (1, false)), (10, (1, false))] := by kernel_rfl
theorem fl_146 : fieldsP Try.prog 146 = some [(0, (1, false)), (1, (1, false)), (2, (1, false)), (3, (1, false)), (4, (1, false)), (5, (1, false)), (6, (1, false)), (7, (1, false)), (8, (1, false)), (9, (1, false)), (10, (1, false))] := by kernel_rfl
theorem eq_26 : eqInts Try.prog 26 = true ∧ (match Try.prog.underlying 26 with | some (.struct fs) => fs.size | _ => 0) = 2 := ⟨by kernel_rfl, by rw [Try.underlying26]; rfl⟩
theorem eq_27 : eqInts Try.prog 27 = true ∧ (match Try.prog.underlying 27 with | some (.struct fs) => fs.size | _ => 0) = 2 := ⟨by kernel_rfl, by rw [Try.underlying27]; rfl⟩
theorem eq_47 : eqInts Try.prog 47 = true ∧ (match Try.prog.underlying 47 with | some (.struct fs) => fs.size | _ => 0) = 5 := ⟨by kernel_rfl, by rw [Try.underlying47]; rfl⟩
theorem eq_48 : eqInts Try.prog 48 = true ∧ (match Try.prog.underlying 48 with | some (.struct fs) => fs.size | _ => 0) = 5 := ⟨by kernel_rfl, by rw [Try.underlying48]; rfl⟩
theorem eq_62 : eqInts Try.prog 62 = true ∧ (match Try.prog.underlying 62 with | some (.struct fs) => fs.size | _ => 0) = 4 := ⟨by kernel_rfl, by rw [Try.underlying62]; rfl⟩
theorem eq_63 : eqInts Try.prog 63 = true ∧ (match Try.prog.underlying 63 with | some (.struct fs) => fs.size | _ => 0) = 4 := ⟨by kernel_rfl, by rw [Try.underlying63]; rfl⟩
theorem eq_76 : eqInts Try.prog 76 = true ∧ (match Try.prog.underlying 76 with | some (.struct fs) => fs.size | _ => 0) = 3 := ⟨by kernel_rfl, by rw [Try.underlying76]; rfl⟩
theorem eq_77 : eqInts Try.prog 77 = true ∧ (match Try.prog.underlying 77 with | some (.struct fs) => fs.size | _ => 0) = 3 := ⟨by kernel_rfl, by rw [Try.underlying77]; rfl⟩
theorem eq_101 : eqInts Try.prog 101 = true ∧ (match Try.prog.underlying 101 with | some (.struct fs) => fs.size | _ => 0) = 3 := ⟨by kernel_rfl, by rw [Try.underlying101]; rfl⟩
theorem eq_102 : eqInts Try.prog 102 = true ∧ (match Try.prog.underlying 102 with | some (.struct fs) => fs.size | _ => 0) = 3 := ⟨by kernel_rfl, by rw [Try.underlying102]; rfl⟩
theorem tab_und : allP (fun k D => Try.prog.underlying k = some D) tab.und := ⟨Try.underlying0, ⟨Try.underlying1, ⟨Try.underlying2, ⟨Try.underlying3, ⟨Try.underlying4, ⟨Try.underlying5, ⟨Try.underlying6, ⟨Try.underlying7, ⟨Try.underlying8, ⟨Try.underlying9, ⟨Try.underlying10, ⟨Try.underlying11, ⟨Try.underlying12, ⟨Try.underlying13, ⟨Try.underlying14, ⟨Try.underlying15, ⟨Try.underlying16, ⟨Try.underlying17, ⟨Try.underlying18, ⟨Try.underlying19, ⟨Try.underlying20, ⟨Try.underlying21, ⟨Try.underlying22, ⟨Try.underlying23, ⟨Try.underlying24, ⟨Try.underlying25, ⟨Try.underlying26, ⟨Try.underlying27, ⟨Try.underlying28, ⟨Try.underlying29, ⟨Try.underlying30, ⟨Try.underlying31, ⟨Try.underlying32, ⟨Try.underlying33, ⟨Try.underlying34, ⟨Try.underlying35, ⟨Try.underlying36, ⟨Try.underlying37, ⟨Try.underlying38, ⟨Try.underlying39, ⟨Try.underlying40, ⟨Try.underlying41, ⟨Try.underlying42, ⟨Try.underlying43, ⟨Try.underlying44, ⟨Try.underlying45, ⟨Try.underlying46, ⟨Try.underlying47, ⟨Try.underlying48, ⟨Try.underlying49, ⟨Try.underlying50, ⟨Try.underlying51, ⟨Try.underlying52, ⟨Try.underlying53, ⟨Try.underlying54, ⟨Try.underlying55, ⟨Try.underlying56, ⟨Try.underlying57, ⟨Try.underlying58, ⟨Try.underlying59, ⟨Try.underlying60, ⟨Try.underlying61, ⟨Try.underlying62, ⟨Try.underlying63, ⟨Try.underlying64, ⟨Try.underlying65, ⟨Try.underlying66, ⟨Try.underlying67, ⟨Try.underlying68, ⟨Try.underlying69, ⟨Try.underlying70, ⟨Try.underlying71, ⟨Try.underlying72, ⟨Try.underlying73, ⟨Try.underlying74, ⟨Try.underlying75, ⟨Try.underlying76, ⟨Try.underlying77, ⟨Try.underlying78, ⟨Try.underlying79, ⟨Try.underlying80, ⟨Try.underlying81, ⟨Try.underlying82, ⟨Try.underlying83, ⟨Try.underlying84, ⟨Try.underlying85, ⟨Try.underlying86, ⟨Try.underlying87, ⟨Try.underlying88, ⟨Try.underlying89, ⟨Try.underlying90, ⟨Try.underlying91, ⟨Try.underlying92, ⟨Try.underlying93, ⟨Try.underlying94, ⟨Try.underlying95, ⟨Try.underlying96, ⟨Try.underlying97, ⟨Try.underlying98, ⟨Try.underlying99, ⟨Try.underlying100, ⟨Try.underlying101, ⟨Try.underlying102, ⟨Try.underlying103, ⟨Try.underlying104, ⟨Try.underlying105, ⟨Try.underlying106, ⟨Try.underlying107, ⟨Try.underlying108, ⟨Try.underlying109, ⟨Try.underlying110, ⟨Try.underlying111, ⟨Try.underlying112, ⟨Try.underlying113, ⟨Try.underlying114, ⟨Try.underlying115, ⟨Try.underlying116, ⟨Try.underlying117, ⟨Try.underlying118, ⟨Try.underlying119, ⟨Try.underlying120, ⟨Try.underlying121, ⟨Try.underlying122, ⟨Try.underlying123, ⟨Try.underlying124, ⟨Try.underlying125, ⟨Try.underlying126, ⟨Try.underlying127, ⟨Try.underlying128, ⟨Try.underlying129, ⟨Try.underlying130, ⟨Try.underlying131, ⟨Try.underlying132, ⟨Try.underlying133, ⟨Try.underlying134, ⟨Try.underlying135, ⟨Try.underlying136, ⟨Try.underlying137, ⟨Try.underlying138, ⟨Try.underlying139, ⟨Try.underlying140, ⟨Try.underlying141, ⟨Try.underlying142, ⟨Try.underlying143, ⟨Try.underlying144, ⟨Try.underlying145, ⟨Try.underlying146, ⟨Try.underlying147, trivial⟩⟩⟩⟩⟩⟩⟩⟩⟩⟩⟩⟩⟩⟩⟩⟩⟩⟩⟩⟩⟩⟩⟩⟩⟩⟩⟩⟩⟩⟩⟩⟩⟩⟩⟩⟩⟩⟩⟩⟩⟩⟩⟩⟩⟩⟩⟩⟩⟩⟩⟩⟩⟩⟩⟩⟩⟩⟩⟩⟩⟩⟩⟩⟩⟩⟩⟩⟩⟩⟩⟩⟩⟩⟩⟩⟩⟩⟩⟩⟩⟩⟩⟩⟩⟩⟩⟩⟩⟩⟩⟩⟩⟩⟩⟩⟩⟩⟩⟩⟩⟩⟩⟩⟩⟩⟩⟩⟩⟩⟩⟩⟩⟩⟩⟩⟩⟩⟩⟩⟩⟩⟩⟩⟩⟩⟩⟩⟩⟩⟩⟩⟩⟩⟩⟩⟩⟩⟩⟩⟩⟩⟩⟩⟩⟩⟩⟩⟩
theorem tab_inf : allP (fun k x => tyI Try.prog k = some x) tab.inf := ⟨ty_1, ⟨ty_2, ⟨ty_3, ⟨ty_4, ⟨ty_5, ⟨ty_6, ⟨ty_7, ⟨ty_8, ⟨ty_9, ⟨ty_10, ⟨ty_11, ⟨ty_12, ⟨ty_13, ⟨ty_14, ⟨ty_15, ⟨ty_16, ⟨ty_17, ⟨ty_18, ⟨ty_19, ⟨ty_20, ⟨ty_21, ⟨ty_22, ⟨ty_23, ⟨ty_24, ⟨ty_25, ⟨ty_26, ⟨ty_27, ⟨ty_28, ⟨ty_30, ⟨ty_32, ⟨ty_33, ⟨ty_34, ⟨ty_35, ⟨ty_36, ⟨ty_37, ⟨ty_38, ⟨ty_39, ⟨ty_40, ⟨ty_41, ⟨ty_42, ⟨ty_43, ⟨ty_45, ⟨ty_46, ⟨ty_47, ⟨ty_48, ⟨ty_49, ⟨ty_51, ⟨ty_52, ⟨ty_53, ⟨ty_54, ⟨ty_55, ⟨ty_56, ⟨ty_58, ⟨ty_59, ⟨ty_60, ⟨ty_61, ⟨ty_62, ⟨ty_63, ⟨ty_64, ⟨ty_65, ⟨ty_66, ⟨ty_67, ⟨ty_69, ⟨ty_70, ⟨ty_72, ⟨ty_73, ⟨ty_74, ⟨ty_75, ⟨ty_76, ⟨ty_77, ⟨ty_78, ⟨ty_79, ⟨ty_80, ⟨ty_81, ⟨ty_82, ⟨ty_83, ⟨ty_85, ⟨ty_86, ⟨ty_87, ⟨ty_88, ⟨ty_89, ⟨ty_90, ⟨ty_91, ⟨ty_92, ⟨ty_94, ⟨ty_95, ⟨ty_96, ⟨ty_97, ⟨ty_98, ⟨ty_100, ⟨ty_101, ⟨ty_102, ⟨ty_104, ⟨ty_105, ⟨ty_106, ⟨ty_107, ⟨ty_108, ⟨ty_109, ⟨ty_110, ⟨ty_111, ⟨ty_112, ⟨ty_113, ⟨ty_115, ⟨ty_116, ⟨ty_117, ⟨ty_118, ⟨ty_119, ⟨ty_120, ⟨ty_121, ⟨ty_122, ⟨ty_123, ⟨ty_124, ⟨ty_125, ⟨ty_126, ⟨ty_127, ⟨ty_128, ⟨ty_129, ⟨ty_130, ⟨ty_131, ⟨ty_132, ⟨ty_133, ⟨ty_134, ⟨ty_135, ⟨ty_136, ⟨ty_137, ⟨ty_138, ⟨ty_139, ⟨ty_140, ⟨ty_141, ⟨ty_142, ⟨ty_143, ⟨ty_144, ⟨ty_145, ⟨ty_146, ⟨ty_147, trivial⟩⟩⟩⟩⟩⟩⟩⟩⟩⟩⟩⟩⟩⟩⟩⟩⟩⟩⟩⟩⟩⟩⟩⟩⟩⟩⟩⟩⟩⟩⟩⟩⟩⟩⟩⟩⟩⟩⟩⟩⟩⟩⟩⟩⟩⟩⟩⟩⟩⟩⟩⟩⟩⟩⟩⟩⟩⟩⟩⟩⟩⟩⟩⟩⟩⟩⟩⟩⟩⟩⟩⟩⟩⟩⟩⟩⟩⟩⟩⟩⟩⟩⟩⟩⟩⟩⟩⟩⟩⟩⟩⟩⟩⟩⟩⟩⟩⟩⟩⟩⟩⟩⟩⟩⟩⟩⟩⟩⟩⟩⟩⟩⟩⟩⟩⟩⟩⟩⟩⟩⟩⟩⟩⟩⟩⟩⟩⟩⟩⟩⟩⟩⟩⟩⟩
theorem tab_fld : allP (fun k x => fieldsP Try.prog k = some x) tab.fld := ⟨fl_7, ⟨fl_8, ⟨fl_13, ⟨fl_14, ⟨fl_18, ⟨fl_19, ⟨fl_23, ⟨fl_24, ⟨fl_26, ⟨fl_27, ⟨fl_47, ⟨fl_48, ⟨fl_52, ⟨fl_53, ⟨fl_62, ⟨fl_63, ⟨fl_76, ⟨fl_77, ⟨fl_87, ⟨fl_101, ⟨fl_102, ⟨fl_132, ⟨fl_133, ⟨fl_135, ⟨fl_136, ⟨fl_145, ⟨fl_146, trivial⟩⟩⟩⟩⟩⟩⟩⟩⟩⟩⟩⟩⟩⟩⟩⟩⟩⟩⟩⟩⟩⟩⟩⟩⟩⟩⟩
set_option maxRecDepth 100000 in
theorem tab_eqs : allP (fun k L => eqInts Try.prog k = true ∧ (match Try.prog.underlying k with | some (.struct fs) => fs.size | _ => 0) = L) tab.eqs := ⟨eq_26, ⟨eq_27, ⟨eq_47, ⟨eq_48, ⟨eq_62, ⟨eq_63, ⟨eq_76, ⟨eq_77, ⟨eq_101, ⟨eq_102, trivial⟩⟩⟩⟩⟩⟩⟩⟩⟩⟩
set_option maxRecDepth 100000 in
theorem tab_ok : tab.ok Try.prog := ⟨tab_und, tab_inf, tab_fld, tab_eqs⟩
def cas : List (Nat × Nat) := [(2, 0), (3, 0), (4, 0), (5, 0), (6, 0), (7, 0), (8, 0), (9, 0), (10, 0), (11, 0), (12, 0), (13, 0), (14, 0), (15, 0), (16, 0), (17, 0), (18, 0), (19, 0), (20, 0), (21, 0), (22, 0), (23, 0), (24, 0), (25, 0), (26, 0), (27, 0), (28, 0), (29, 0), (30, 0), (31, 0), (32, 0), (33, 0), (34, 0), (35, 0), (36, 0), (37, 0), (38, 0), (39, 0), (40, 0), (41, 0), (42, 0), (43, 0), (44, 0), (45, 0), (46, 0), (47, 0), (48, 0), (49, 0), (50, 0), (51, 0), (52, 0), (53, 0), (54, 0), (55, 0), (56, 0), (57, 0), (58, 0), (59, 0), (60, 0), (61, 0), (62, 0), (63, 0), (64, 0), (65, 0), (66, 0), (67, 0), (68, 0), (69, 0), (70, 0), (71, 0), (72, 0), (73, 0), (74, 0), (75, 0), (76, 0), (77, 0), (78, 0), (79, 0), (80, 0), (81, 0), (82, 0), (83, 0), (84, 0), (85, 0), (86, 0), (87, 0)]
theorem ca_2 : callable Try.prog 2 = true := by kernel_rfl
theorem ca_3 : callable Try.prog 3 = true := by kernel_rfl
theorem ca_4 : callable Try.prog 4 = true := by kernel_rfl
theorem ca_5 : callable Try.prog 5 = true := by kernel_rfl
theorem ca_6 : callable Try.prog 6 = true := by kernel_rfl
theorem ca_7 : callable Try.prog 7 = true := by kernel_rfl
theorem ca_8 : callable Try.prog 8 = true := by kernel_rfl
theorem ca_9 : callable Try.prog 9 = true := by kernel_rfl
theorem ca_10 : callable Try.prog 10 = true := by kernel_rfl
theorem ca_11 : callable Try.prog 11 = true := by kernel_rfl
theorem ca_12 : callable Try.prog 12 = true := by kernel_rfl
theorem ca_13 : callable Try.prog 13 = true := by kernel_rfl
theorem ca_14 : callable Try.prog 14 = true := by kernel_rfl
theorem ca_15 : callable Try.prog 15 = true := by kernel_rfl
theorem ca_16 : callable Try.prog 16 = true := by kernel_rfl
theorem ca_17 : callable Try.prog 17 = true := by kernel_rfl
theorem ca_18 : callable Try.prog 18 = true := by kernel_rfl
theorem ca_19 : callable Try.prog 19 = true := by kernel_rfl
theorem ca_20 : callable Try.prog 20 = true := by kernel_rfl
theorem ca_21 : callable Try.prog 21 = true := by kernel_rfl
theorem ca_22 : callable Try.prog 22 = true := by kernel_rfl
theorem ca_23 : callable Try.prog 23 = true := by kernel_rfl
theorem ca_24 : callable Try.prog 24 = true := by kernel_rfl
theorem ca_25 : callable Try.prog 25 = true := by kernel_rfl
theorem ca_26 : callable Try.prog 26 = true := by kernel_rfl
theorem ca_27 : callable Try.prog 27 = true := by kernel_rfl
theorem ca_28 : callable Try.prog 28 = true := by kernel_rfl
theorem ca_29 : callable Try.prog 29 = true := by kernel_rfl
theorem ca_30 : callable Try.prog 30 = true := by kernel_rfl
theorem ca_31 : callable Try.prog 31 = true := by kernel_rfl
theorem ca_32 : callable Try.prog 32 = true := by kernel_rfl
theorem ca_33 : callable Try.prog 33 = true := by kernel_rfl
theorem ca_34 : callable Try.prog 34 = true := by kernel_rfl
theorem ca_35 : callable Try.prog 35 = true := by kernel_rfl
theorem ca_36 : callable Try.prog 36 = true := by kernel_rfl
theorem ca_37 : callable Try.prog 37 = true := by kernel_rfl
theorem ca_38 : callable Try.prog 38 = true := by kernel_rfl
theorem ca_39 : callable Try.prog 39 = true := by kernel_rfl
theorem ca_40 : callable Try.prog 40 = true := by kernel_rfl
theorem ca_41 : callable Try.prog 41 = true := by kernel_rfl
theorem ca_42 : callable Try.prog 42 = true := by kernel_rfl
theorem ca_43 : callable Try.prog 43 = true := by kernel_rfl
theorem ca_44 : callable Try.prog 44 = true := by kernel_rfl
theorem ca_45 : callable Try.prog 45 = true := by kernel_rfl
theorem ca_46 : callable Try.prog 46 = true := by kernel_rfl
theorem ca_47 : callable Try.prog 47 = true := by kernel_rfl
theorem ca_48 : callable Try.prog 48 = true := by kernel_rfl
theorem ca_49 : callable Try.prog 49 = true := by kernel_rfl
theorem ca_50 : callable Try.prog 50 = true := by kernel_rfl
theorem ca_51 : callable Try.prog 51 = true := by kernel_rfl
theorem ca_52 : callable Try.prog 52 = true := by kernel_rfl
theorem ca_53 : callable Try.prog 53 = true := by kernel_rfl
theorem ca_54 : callable Try.prog 54 = true := by kernel_rfl
theorem ca_55 : callable Try.prog 55 = true := by kernel_rfl
theorem ca_56 : callable Try.prog 56 = true := by kernel_rfl
theorem ca_57 : callable Try.prog 57 = true := by kernel_rfl
theorem ca_58 : callable Try.prog 58 = true := by kernel_rfl
theorem ca_59 : callable Try.prog 59 = true := by kernel_rfl
theorem ca_60 : callable Try.prog 60 = true := by kernel_rfl
theorem ca_61 : callable Try.prog 61 = true := by kernel_rfl
theorem ca_62 : callable Try.prog 62 = true := by kernel_rfl
theorem ca_63 : callable Try.prog 63 = true := by kernel_rfl
theorem ca_64 : callable Try.prog 64 = true := by kernel_rfl
theorem ca_65 : callable Try.prog 65 = true := by kernel_rfl
theorem ca_66 : callable Try.prog 66 = true := by kernel_rfl
theorem ca_67 : callable Try.prog 67 = true := by kernel_rfl
theorem ca_68 : callable Try.prog 68 = true := by kernel_rfl
theorem ca_69 : callable Try.prog 69 = true := by kernel_rfl
theorem ca_70 : callable Try.prog 70 = true := by kernel_rfl
theorem ca_71 : callable Try.prog 71 = true := by kernel_rfl
theorem ca_72 : callable Try.prog 72 = true := by kernel_rfl
theorem ca_73 : callable Try.prog 73 = true := by kernel_rfl
theorem ca_74 : callable Try.prog 74 = true := by kernel_rfl
theorem ca_75 : callable Try.prog 75 = true := by kernel_rfl
theorem ca_76 : callable Try.prog 76 = true := by kernel_rfl
theorem ca_77 : callable Try.prog 77 = true := by kernel_rfl
theorem ca_78 : callable Try.prog 78 = true := by kernel_rfl
theorem ca_79 : callable Try.prog 79 = true := by kernel_rfl
theorem ca_80 : callable Try.prog 80 = true := by kernel_rfl
theorem ca_81 : callable Try.prog 81 = true := by kernel_rfl
theorem ca_82 : callable Try.prog 82 = true := by kernel_rfl
theorem ca_83 : callable Try.prog 83 = true := by kernel_rfl
theorem ca_84 : callable Try.prog 84 = true := by kernel_rfl
theorem ca_85 : callable Try.prog 85 = true := by kernel_rfl
theorem ca_86 : callable Try.prog 86 = true := by kernel_rfl
theorem ca_87 : callable Try.prog 87 = true := by kernel_rfl
theorem cas_ok : allP (fun k _ => callable Try.prog k = true) cas := ⟨ca_2, ⟨ca_3, ⟨ca_4, ⟨ca_5, ⟨ca_6, ⟨ca_7, ⟨ca_8, ⟨ca_9, ⟨ca_10, ⟨ca_11, ⟨ca_12, ⟨ca_13, ⟨ca_14, ⟨ca_15, ⟨ca_16, ⟨ca_17, ⟨ca_18, ⟨ca_19, ⟨ca_20, ⟨ca_21, ⟨ca_22, ⟨ca_23, ⟨ca_24, ⟨ca_25, ⟨ca_26, ⟨ca_27, ⟨ca_28, ⟨ca_29, ⟨ca_30, ⟨ca_31, ⟨ca_32, ⟨ca_33, ⟨ca_34, ⟨ca_35, ⟨ca_36, ⟨ca_37, ⟨ca_38, ⟨ca_39, ⟨ca_40, ⟨ca_41, ⟨ca_42, ⟨ca_43, ⟨ca_44, ⟨ca_45, ⟨ca_46, ⟨ca_47, ⟨ca_48, ⟨ca_49, ⟨ca_50, ⟨ca_51, ⟨ca_52, ⟨ca_53, ⟨ca_54, ⟨ca_55, ⟨ca_56, ⟨ca_57, ⟨ca_58, ⟨ca_59, ⟨ca_60, ⟨ca_61, ⟨ca_62, ⟨ca_63, ⟨ca_64, ⟨ca_65, ⟨ca_66, ⟨ca_67, ⟨ca_68, ⟨ca_69, ⟨ca_70, ⟨ca_71, ⟨ca_72, ⟨ca_73, ⟨ca_74, ⟨ca_75, ⟨ca_76, ⟨ca_77, ⟨ca_78, ⟨ca_79, ⟨ca_80, ⟨ca_81, ⟨ca_82, ⟨ca_83, ⟨ca_84, ⟨ca_85, ⟨ca_86, ⟨ca_87, trivial⟩⟩⟩⟩⟩⟩⟩⟩⟩⟩⟩⟩⟩⟩⟩⟩⟩⟩⟩⟩⟩⟩⟩⟩⟩⟩⟩⟩⟩⟩⟩⟩⟩⟩⟩⟩⟩⟩⟩⟩⟩⟩⟩⟩⟩⟩⟩⟩⟩⟩⟩⟩⟩⟩⟩⟩⟩⟩⟩⟩⟩⟩⟩⟩⟩⟩⟩⟩⟩⟩⟩⟩⟩⟩⟩⟩⟩⟩⟩⟩⟩⟩⟩⟩⟩⟩
end Go.Proofs.Ytnbmldnahacnlaa
/- What a run of the abstract machine asks of the program (printed by a program). -/
namespace Go.Proofs.Ytnbmldnahacnlaa
open Go
noncomputable def ctx : Ctx := ⟨tab, [(2, Try.f2), (3, Try.f3), (4, Try.f4), (5, Try.f5), (6, Try.f6), (7, Try.f7), (8, Try.f8), (9, Try.f9), (10, Try.f10), (11, Try.f11), (12, Try.f12), (13, Try.f13), (14, Try.f14), (15, Try.f15), (16, Try.f16), (17, Try.f17), (18, Try.f18), (19, Try.f19), (20, Try.f20), (21, Try.f21), (22, Try.f22), (23, Try.f23), (24, Try.f24), (25, Try.f25), (26, Try.f26), (27, Try.f27), (28, Try.f28), (29, Try.f29), (30, Try.f30), (31, Try.f31), (32, Try.f32), (33, Try.f33), (34, Try.f34), (35, Try.f35), (36, Try.f36), (37, Try.f37), (38, Try.f38), (39, Try.f39), (40, Try.f40), (41, Try.f41), (42, Try.f42), (43, Try.f43), (44, Try.f44), (45, Try.f45), (46, Try.f46), (47, Try.f47), (48, Try.f48), (49, Try.f49), (50, Try.f50), (51, Try.f51), (52, Try.f52), (53, Try.f53), (54, Try.f54), (55, Try.f55), (56, Try.f56), (57, Try.f57), (58, Try.f58), (59, Try.f59), (60, Try.f60), (61, Try.f61), (62, Try.f62), (63, Try.f63), (64, Try.f64), (65, Try.f65), (66, Try.f66), (67, Try.f67), (68, Try.f68), (69, Try.f69), (70, Try.f70), (71, Try.f71), (72, Try.f72), (73, Try.f73), (74, Try.f74), (75, Try.f75), (76, Try.f76), (77, Try.f77), (78, Try.f78), (79, Try.f79), (80, Try.f80), (81, Try.f81), (82, Try.f82), (83, Try.f83), (84, Try.f84), (85, Try.f85), (86, Try.f86), (87, Try.f87)], cas⟩
set_option maxRecDepth 100000 in
theorem fns_ok : allP (fun k f => Try.prog.funcs[k]? = some f) ctx.fns := ⟨Try.func2, ⟨Try.func3, ⟨Try.func4, ⟨Try.func5, ⟨Try.func6, ⟨Try.func7, ⟨Try.func8, ⟨Try.func9, ⟨Try.func10, ⟨Try.func11, ⟨Try.func12, ⟨Try.func13, ⟨Try.func14, ⟨Try.func15, ⟨Try.func16, ⟨Try.func17, ⟨Try.func18, ⟨Try.func19, ⟨Try.func20, ⟨Try.func21, ⟨Try.func22, ⟨Try.func23, ⟨Try.func24, ⟨Try.func25, ⟨Try.func26, ⟨Try.func27, ⟨Try.func28, ⟨Try.func29, ⟨Try.func30, ⟨Try.func31, ⟨Try.func32, ⟨Try.func33, ⟨Try.func34, ⟨Try.func35, ⟨Try.func36, ⟨Try.func37, ⟨Try.func38, ⟨Try.func39, ⟨Try.func40, ⟨Try.func41, ⟨Try.func42, ⟨Try.func43, ⟨Try.func44, ⟨Try.func45, ⟨Try.func46, ⟨Try.func47, ⟨Try.func48, ⟨Try.func49, ⟨Try.func50, ⟨Try.func51, ⟨Try.func52, ⟨Try.func53, ⟨Try.func54, ⟨Try.func55, ⟨Try.func56, ⟨Try.func57, ⟨Try.func58, ⟨Try.func59, ⟨Try.func60, ⟨Try.func61, ⟨Try.func62, ⟨Try.func63, ⟨Try.func64, ⟨Try.func65, ⟨Try.func66, ⟨Try.func67, ⟨Try.func68, ⟨Try.func69, ⟨Try.func70, ⟨Try.func71, ⟨Try.func72, ⟨Try.func73, ⟨Try.func74, ⟨Try.func75, ⟨Try.func76, ⟨Try.func77, ⟨Try.func78, ⟨Try.func79, ⟨Try.func80, ⟨Try.func81, ⟨Try.func82, ⟨Try.func83, ⟨Try.func84, ⟨Try.func85, ⟨Try.func86, ⟨Try.func87, trivial⟩⟩⟩⟩⟩⟩⟩⟩⟩⟩⟩⟩⟩⟩⟩⟩⟩⟩⟩⟩⟩⟩⟩⟩⟩⟩⟩⟩⟩⟩⟩⟩⟩⟩⟩⟩⟩⟩⟩⟩⟩⟩⟩⟩⟩⟩⟩⟩⟩⟩⟩⟩⟩⟩⟩⟩⟩⟩⟩⟩⟩⟩⟩⟩⟩⟩⟩⟩⟩⟩⟩⟩⟩⟩⟩⟩⟩⟩⟩⟩⟩⟩⟩⟩⟩⟩
theorem ctx_ok : ctx.ok Try.prog := ⟨tab_ok, fns_ok, cas_ok, by kernel_rfl⟩
end Go.Proofs.Ytnbmldnahacnlaa
/- Decompiling: the program's functions as the machine over terms takes them. -/
namespace Go.Proofs.Ytnbmldnahacnlaa
open Go Go.RowKit
noncomputable def dc (l : List (Nat × Ctr)) : DC := ⟨tab, ctx.fns, ctx.cas, l⟩
theorem dc_ok {l : List (Nat × Ctr)} (h : allP (CtrOk Try.prog) l) : (dc l).ok Try.prog := ⟨ctx_ok.T, ctx_ok.fns, ctx_ok.cas, ctx_ok.mixed, h⟩
theorem ctr_ok {l : List (Nat × Ctr)} (hl : allP (CtrOk Try.prog) l) {f : Nat} {an : An} {Fn : Nat} {σ ρ : Ty} {g : Nat → σ.den → Option ρ.den} (h : ∀ fu x, (topG (ρ := ρ) (dc l) (drR (dc l)) f an Fn σ (.var x)).den fu = g fu x) : CtrOk Try.prog Fn ⟨σ, ρ, g, Fn⟩ :=
  fun fu x _ hy => topG_ok (dc_ok hl) (fun _ _ hS => drR_ok (dc_ok hl) hS) ((h fu x).trans hy)
end Go.Proofs.Ytnbmldnahacnlaa
/- Residual programs of functions (printed by a program out of the code), checked by the kernel, and the contracts that follow. -/
namespace Go.Proofs.Ytnbmldnahacnlaa
open Go Go.RowKit
set_option linter.unusedVariables false
def R_Within_r (fu : Nat) (a : (Int) × ((Int) × ((Int) × (Unit)))) : Option ((Bool) × (Unit)) :=
  bif (decide (a.2.1 ≤ a.1)) then
    let v0 : Bool := (decide (a.1 ≤ a.2.2.1))
    some ((v0, ()))
  else
  some ((false, ()))
def R_Within_an : An := (.n none .z (.n none .z .z))
noncomputable def R_Within_dc : List (Nat × Ctr) := []
def R_Within_ctr : Ctr := ⟨(.pair (.int .i64) (.pair (.int .i64) (.pair (.int .i64) .unit))), (.pair .bool .unit), R_Within_r, 17⟩
theorem R_Within_ok : CtrOk Try.prog 17 R_Within_ctr := ctr_ok (l := R_Within_dc) (f := 12) (an := R_Within_an) trivial fun fu x => by kernel_rfl
def R_Bit_j1 (fu : Nat) (a : ((Int) × ((Int) × (List (Int)))) × ((Int) × ((Int) × (Unit)))) (v0 : Bool) : Option ((Bool) × (Unit)) :=
  bif v0 then
    some ((false, ()))
  else
  bif ((decide ((0 : Int) ≤ (IntKind.i64.wrap ((IntKind.i64.wrap (a.2.2.1 * (IntKind.i64.wrap (Int.tdiv (IntKind.i64.wrap (a.1.1 + (7 : Int))) (8 : Int))))) + (IntKind.i64.wrap (Int.tdiv a.2.1 (8 : Int))))))) && (decide ((IntKind.i64.wrap ((IntKind.i64.wrap (a.2.2.1 * (IntKind.i64.wrap (Int.tdiv (IntKind.i64.wrap (a.1.1 + (7 : Int))) (8 : Int))))) + (IntKind.i64.wrap (Int.tdiv a.2.1 (8 : Int))))) < (List.length a.1.2.2 : Int)))) then
  let v1 : Int := (List.getD a.1.2.2 (Int.toNat (IntKind.i64.wrap ((IntKind.i64.wrap (a.2.2.1 * (IntKind.i64.wrap (Int.tdiv (IntKind.i64.wrap (a.1.1 + (7 : Int))) (8 : Int))))) + (IntKind.i64.wrap (Int.tdiv a.2.1 (8 : Int)))))) 0)
  bif ((decide ((0 : Int) ≤ (Int.tmod a.2.1 (8 : Int)))) && (decide ((Int.tmod a.2.1 (8 : Int)) ≤ (8 : Int)))) then
  let v2 : Bool := (decide ((bits BinOp.and IntKind.u8 (IntKind.u8.wrap (v1 * 2 ^ (Int.toNat (Int.tmod a.2.1 (8 : Int))))) (128 : Int)) ≠ (0 : Int)))
  some ((v2, ()))
  else none
  else none
def R_Bit_r (fu : Nat) (a : ((Int) × ((Int) × (List (Int)))) × ((Int) × ((Int) × (Unit)))) : Option ((Bool) × (Unit)) :=
  joinF (R_Bit_j1 fu a) fun j0 =>
  bindO (R_Within_r fu ((a.2.1, ((0 : Int), ((IntKind.i64.wrap (a.1.1 - (1 : Int))), ()))))) fun v1 =>
  bif (!v1.1) then
    j0 (true)
  else
  bindO (R_Within_r fu ((a.2.2.1, ((0 : Int), ((IntKind.i64.wrap (a.1.2.1 - (1 : Int))), ()))))) fun v2 =>
  j0 ((!v2.1))
def R_Bit_an : An := (.n none .z (.n none (.n (some ⟨[2, 3, 1, 6], [0], [], [.reg 20 .bool], 0, []⟩) .z (.n none (.n none .z .z) .z)) (.n none .z .z)))
noncomputable def R_Bit_dc : List (Nat × Ctr) := [(17, R_Within_ctr)]
def R_Bit_ctr : Ctr := ⟨(.pair (.agg (.pair (.int .i64) (.pair (.int .i64) (.list (.int .u8))))) (.pair (.int .i64) (.pair (.int .i64) .unit))), (.pair .bool .unit), R_Bit_r, 24⟩
theorem R_Bit_ok : CtrOk Try.prog 24 R_Bit_ctr := ctr_ok (l := R_Bit_dc) (f := 12) (an := R_Bit_an) ⟨R_Within_ok, trivial⟩ fun fu x => by kernel_rfl
def R_BitsErr_j4 (fu : Nat) (v4 : Int) (j4 : (Int) → Option ((Int) × (Unit))) (v5 : Bool) : Option ((Int) × (Unit)) :=
  bif v5 then
    some (((4 : Int), ()))
  else
  j4 ((IntKind.i64.wrap (v4 + (1 : Int))))
def R_BitsErr_l3 (fu : Nat) (a : ((Int) × ((Int) × (List (Int)))) × (Unit)) (v1 : Int) (v2 : Int) (v3 : Int) (j2 : (Int) → Option ((Int) × (Unit))) (j4 : (Int) → Option ((Int) × (Unit))) (v4 : Int) : Option ((Int) × (Unit)) :=
  bif (decide (v4 < (8 : Int))) then
    joinF (R_BitsErr_j4 fu v4 j4) fun j5 =>
    bif (decide (v1 ≠ (0 : Int))) then
    bif (decide (a.1.1 ≤ (IntKind.i64.wrap ((IntKind.i64.wrap ((Int.tmod v2 v1) * (8 : Int))) + v4)))) then
      bif ((decide ((0 : Int) ≤ v4)) && (decide (v4 ≤ (8 : Int)))) then
      j5 ((decide ((bits BinOp.and IntKind.u8 (IntKind.u8.wrap (v3 * 2 ^ (Int.toNat v4))) (128 : Int)) ≠ (0 : Int))))
      else none
    else
    j5 (false)
    else none
  else
  j2 ((IntKind.i64.wrap (v2 + (1 : Int))))
def R_BitsErr_l2 (fu : Nat) (a : ((Int) × ((Int) × (List (Int)))) × (Unit)) (v1 : Int) (j2 : (Int) → Option ((Int) × (Unit))) (v2 : Int) : Option ((Int) × (Unit)) :=
  bif (decide (v2 < (List.length a.1.2.2 : Int))) then
    bif ((decide ((0 : Int) ≤ v2)) && (decide (v2 < (List.length a.1.2.2 : Int)))) then
    let v3 : Int := (List.getD a.1.2.2 (Int.toNat v2) 0)
    loopF (R_BitsErr_l3 fu a v1 v2 v3 j2) fu ((0 : Int))
    else none
  else
  some (((0 : Int), ()))
def R_BitsErr_j1 (fu : Nat) (a : ((Int) × ((Int) × (List (Int)))) × (Unit)) (v0 : Bool) : Option ((Int) × (Unit)) :=
  bif v0 then
    some (((3 : Int), ()))
  else
  let v1 : Int := (IntKind.i64.wrap (Int.tdiv (IntKind.i64.wrap (a.1.1 + (7 : Int))) (8 : Int)))
  bif (decide ((List.length a.1.2.2 : Int) ≠ (IntKind.i64.wrap (v1 * a.1.2.1)))) then
    some (((4 : Int), ()))
  else
  loopF (R_BitsErr_l2 fu a v1) fu ((0 : Int))
def R_BitsErr_r (fu : Nat) (a : ((Int) × ((Int) × (List (Int)))) × (Unit)) : Option ((Int) × (Unit)) :=
  joinF (R_BitsErr_j1 fu a) fun j0 =>
  bindO (R_Within_r fu ((a.1.1, ((1 : Int), ((1024 : Int), ()))))) fun v1 =>
  bif (!v1.1) then
    j0 (true)
  else
  bindO (R_Within_r fu ((a.1.2.1, ((1 : Int), ((1024 : Int), ()))))) fun v2 =>
  j0 ((!v2.1))
def R_BitsErr_an : An := (.n none .z (.n none (.n (some ⟨[1, 2], [0], [], [.reg 16 .bool], 0, []⟩) .z (.n none (.n none .z .z) .z)) (.n none .z (.n none (.n none .z (.n none (.n none .z .z) .z)) (.n none (.n none .z (.n none (.n (some ⟨[30, 3, 1, 31], [0], [], [.reg 32 (.int .i64)], 0, []⟩) (.n none .z (.n none .z (.n none (.n none (.n none .z (.n none .z (.n none (.n (some ⟨[32, 4, 5], [], [], [.reg 37 (.int .i64)], 0, []⟩) (.n none .z (.n none .z (.n none (.n none (.n none .z (.n (some ⟨[37], [], [], [.reg 55 .bool], 0, []⟩) (.dr [] []) (.n none (.n none .z .z) .z))) .z) .z))) .z) .z))) .z) .z))) .z) .z)) (.n none .z .z))))))
noncomputable def R_BitsErr_dc : List (Nat × Ctr) := [(17, R_Within_ctr)]
def R_BitsErr_ctr : Ctr := ⟨(.pair (.agg (.pair (.int .i64) (.pair (.int .i64) (.list (.int .u8))))) .unit), (.pair (.int .i64) .unit), R_BitsErr_r, 21⟩
theorem R_BitsErr_ok : CtrOk Try.prog 21 R_BitsErr_ctr := ctr_ok (l := R_BitsErr_dc) (f := 12) (an := R_BitsErr_an) ⟨R_Within_ok, trivial⟩ fun fu x => by kernel_rfl
def law_none_r (fu : Nat) (a : (Bool) × ((Int) × ((Int) × (Unit)))) : Option ((Bool) × (Unit)) :=
  bif a.1 then
    let v0 : Bool := (decide (a.2.1 = a.2.2.1))
    some ((v0, ()))
  else
  some ((false, ()))
def law_none_an : An := (.n none .z (.n none .z .z))
noncomputable def law_none_dc : List (Nat × Ctr) := []
def law_none_ctr : Ctr := ⟨(.pair .bool (.pair (.int .i64) (.pair (.int .i64) .unit))), (.pair .bool .unit), law_none_r, 22⟩
theorem law_none_ok : CtrOk Try.prog 22 law_none_ctr := ctr_ok (l := law_none_dc) (f := 12) (an := law_none_an) trivial fun fu x => by kernel_rfl
def bitmap_stride_r (fu : Nat) (a : (Int) × (Unit)) : Option ((Int) × (Unit)) :=
  let v0 : Int := (IntKind.i64.wrap (Int.tdiv (IntKind.i64.wrap (a.1 + (7 : Int))) (8 : Int)))
  some ((v0, ()))
def bitmap_stride_an : An := (.n none .z (.n none .z .z))
noncomputable def bitmap_stride_dc : List (Nat × Ctr) := []
def bitmap_stride_ctr : Ctr := ⟨(.pair (.int .i64) .unit), (.pair (.int .i64) .unit), bitmap_stride_r, 69⟩
theorem bitmap_stride_ok : CtrOk Try.prog 69 bitmap_stride_ctr := ctr_ok (l := bitmap_stride_dc) (f := 12) (an := bitmap_stride_an) trivial fun fu x => by kernel_rfl
def bitmap_Check_j2 (fu : Nat) (v3 : Unit) : Option ((Int) × (Unit)) :=
  some (((0 : Int), ()))
def bitmap_Check_l3 (fu : Nat) (a : ((Int) × ((Int) × (List (Int)))) × (Unit)) (v2 : Int) (v4 : Int) (j3 : (Unit) → Option ((Int) × (Unit))) (j5 : (Int) → Option ((Int) × (Unit))) (v5 : Int) : Option ((Int) × (Unit)) :=
  bif (decide (v5 < a.1.2.1)) then
    bif ((decide ((0 : Int) ≤ (IntKind.i64.wrap ((IntKind.i64.wrap ((IntKind.i64.wrap (v5 * v2)) + v2)) - (1 : Int))))) && (decide ((IntKind.i64.wrap ((IntKind.i64.wrap ((IntKind.i64.wrap (v5 * v2)) + v2)) - (1 : Int))) < (List.length a.1.2.2 : Int)))) then
    let v6 : Int := (List.getD a.1.2.2 (Int.toNat (IntKind.i64.wrap ((IntKind.i64.wrap ((IntKind.i64.wrap (v5 * v2)) + v2)) - (1 : Int)))) 0)
    bif (decide ((bits BinOp.and IntKind.u8 v6 v4) ≠ (0 : Int))) then
      some (((4 : Int), ()))
    else
    j5 ((IntKind.i64.wrap (v5 + (1 : Int))))
    else none
  else
  j3 (())
def bitmap_Check_j1 (fu : Nat) (a : ((Int) × ((Int) × (List (Int)))) × (Unit)) (v0 : Bool) : Option ((Int) × (Unit)) :=
  bif v0 then
    some (((3 : Int), ()))
  else
  bindO (bitmap_stride_r fu ((a.1.1, ()))) fun v1 =>
  let v2 : Int := v1.1
  bif (decide ((List.length a.1.2.2 : Int) ≠ (IntKind.i64.wrap (v2 * a.1.2.1)))) then
    some (((4 : Int), ()))
  else
  joinF (bitmap_Check_j2 fu) fun j3 =>
  bif ((decide ((0 : Int) ≤ (IntKind.i64.wrap ((IntKind.i64.wrap ((8 : Int) * v2)) - a.1.1)))) && (decide ((IntKind.i64.wrap ((IntKind.i64.wrap ((8 : Int) * v2)) - a.1.1)) ≤ (8 : Int)))) then
  let v4 : Int := (IntKind.u8.wrap ((IntKind.u8.wrap ((1 : Int) * 2 ^ (Int.toNat (IntKind.i64.wrap ((IntKind.i64.wrap ((8 : Int) * v2)) - a.1.1))))) - (1 : Int)))
  bif (decide (v4 ≠ (0 : Int))) then
    loopF (bitmap_Check_l3 fu a v2 v4 j3) fu ((0 : Int))
  else
  j3 (())
  else none
def bitmap_Check_r (fu : Nat) (a : ((Int) × ((Int) × (List (Int)))) × (Unit)) : Option ((Int) × (Unit)) :=
  joinF (bitmap_Check_j1 fu a) fun j0 =>
  bif (decide (a.1.1 < (1 : Int))) then
    j0 (true)
  else
  bif (decide ((1024 : Int) < a.1.1)) then
    j0 (true)
  else
  bif (decide (a.1.2.1 < (1 : Int))) then
    j0 (true)
  else
  j0 ((decide ((1024 : Int) < a.1.2.1)))
def bitmap_Check_an : An := (.n none .z (.n none (.n (some ⟨[1, 2], [0], [], [.reg 23 .bool], 0, []⟩) .z (.n none (.n none .z .z) .z)) (.n none .z (.n none (.n none .z (.n none (.n none .z .z) .z)) (.n (some ⟨[], [0], [], [], 0, []⟩) (.n none .z (.n none .z (.n none (.n none .z (.n none (.n (some ⟨[1, 3, 4, 45], [], [], [.reg 46 (.int .i64)], 0, []⟩) (.n none .z (.n none .z (.n none (.n none (.n none .z (.n none .z (.n none (.n none .z .z) .z))) .z) .z))) .z) .z)) .z))) (.n none .z .z))))))
noncomputable def bitmap_Check_dc : List (Nat × Ctr) := [(69, bitmap_stride_ctr)]
def bitmap_Check_ctr : Ctr := ⟨(.pair (.agg (.pair (.int .i64) (.pair (.int .i64) (.list (.int .u8))))) .unit), (.pair (.int .i64) .unit), bitmap_Check_r, 38⟩
theorem bitmap_Check_ok : CtrOk Try.prog 38 bitmap_Check_ctr := ctr_ok (l := bitmap_Check_dc) (f := 12) (an := bitmap_Check_an) ⟨bitmap_stride_ok, trivial⟩ fun fu x => by kernel_rfl
def bitmap_Is_r (fu : Nat) (a : ((Int) × ((Int) × (List (Int)))) × ((Int) × ((Int) × (Unit)))) : Option ((Bool) × (Unit)) :=
  bif (decide ((0 : Int) ≤ a.2.1)) then
    bif (decide (a.2.1 < a.1.1)) then
      bif (decide ((0 : Int) ≤ a.2.2.1)) then
        bif (decide (a.2.2.1 < a.1.2.1)) then
          bindO (bitmap_stride_r fu ((a.1.1, ()))) fun v0 =>
          bif ((decide ((0 : Int) ≤ (IntKind.i64.wrap ((IntKind.i64.wrap (a.2.2.1 * v0.1)) + (IntKind.i64.wrap (Int.tdiv a.2.1 (8 : Int))))))) && (decide ((IntKind.i64.wrap ((IntKind.i64.wrap (a.2.2.1 * v0.1)) + (IntKind.i64.wrap (Int.tdiv a.2.1 (8 : Int))))) < (List.length a.1.2.2 : Int)))) then
          let v1 : Int := (List.getD a.1.2.2 (Int.toNat (IntKind.i64.wrap ((IntKind.i64.wrap (a.2.2.1 * v0.1)) + (IntKind.i64.wrap (Int.tdiv a.2.1 (8 : Int)))))) 0)
          bif ((decide ((0 : Int) ≤ (Int.tmod a.2.1 (8 : Int)))) && (decide ((Int.tmod a.2.1 (8 : Int)) ≤ (8 : Int)))) then
          let v2 : Bool := (decide ((bits BinOp.and IntKind.u8 v1 ((128 : Int) / 2 ^ (Int.toNat (Int.tmod a.2.1 (8 : Int))))) ≠ (0 : Int)))
          some ((v2, ()))
          else none
          else none
        else
        some ((false, ()))
      else
      some ((false, ()))
    else
    some ((false, ()))
  else
  some ((false, ()))
def bitmap_Is_an : An := (.n none .z (.n none (.dr [] []) .z))
noncomputable def bitmap_Is_dc : List (Nat × Ctr) := [(69, bitmap_stride_ctr)]
def bitmap_Is_ctr : Ctr := ⟨(.pair (.ptr (.pair (.int .i64) (.pair (.int .i64) (.list (.int .u8))))) (.pair (.int .i64) (.pair (.int .i64) .unit))), (.pair .bool .unit), bitmap_Is_r, 60⟩
theorem bitmap_Is_ok : CtrOk Try.prog 60 bitmap_Is_ctr := ctr_ok (l := bitmap_Is_dc) (f := 12) (an := bitmap_Is_an) ⟨bitmap_stride_ok, trivial⟩ fun fu x => by kernel_rfl
def R_SameBytes_r (fu : Nat) (a : (List (Int)) × ((List (Int)) × (Unit))) : Option ((Bool) × (Unit)) :=
  let v0 : Bool := (decide ((bytesOf a.1) = (bytesOf a.2.1)))
  some ((v0, ()))
def R_SameBytes_an : An := (.n none .z (.n none .z .z))
noncomputable def R_SameBytes_dc : List (Nat × Ctr) := []
def R_SameBytes_ctr : Ctr := ⟨(.pair (.list (.int .u8)) (.pair (.list (.int .u8)) .unit)), (.pair .bool .unit), R_SameBytes_r, 59⟩
theorem R_SameBytes_ok : CtrOk Try.prog 59 R_SameBytes_ctr := ctr_ok (l := R_SameBytes_dc) (f := 12) (an := R_SameBytes_an) trivial fun fu x => by kernel_rfl
def law_big_r (fu : Nat) (a : ((Int) × ((Int) × (List (Int)))) × (Unit)) : Option ((Bool) × (Unit)) :=
  bif (decide ((48 : Int) < a.1.1)) then
    some ((true, ()))
  else
  let v0 : Bool := (decide ((24 : Int) < a.1.2.1))
  some ((v0, ()))
def law_big_an : An := (.n none .z (.n none .z .z))
noncomputable def law_big_dc : List (Nat × Ctr) := []
def law_big_ctr : Ctr := ⟨(.pair (.agg (.pair (.int .i64) (.pair (.int .i64) (.list (.int .u8))))) .unit), (.pair .bool .unit), law_big_r, 23⟩
theorem law_big_ok : CtrOk Try.prog 23 law_big_ctr := ctr_ok (l := law_big_dc) (f := 12) (an := law_big_an) trivial fun fu x => by kernel_rfl
end Go.Proofs.Ytnbmldnahacnlaa
/- Residual programs of functions (printed by a program out of the code), checked by the kernel, and the contracts that follow. -/
namespace Go.Proofs.Ytnbmldnahacnlaa
open Go Go.RowKit
set_option linter.unusedVariables false
def R_Floor_j1 (fu : Nat) (v1 : Int) : Option ((Int) × (Unit)) :=
  some ((v1, ()))
def R_Floor_r (fu : Nat) (a : (Int) × ((Int) × (Unit))) : Option ((Int) × (Unit)) :=
  bif (decide (a.2.1 ≠ (0 : Int))) then
  let v0 : Int := (IntKind.i64.wrap (Int.tdiv a.1 a.2.1))
  joinF (R_Floor_j1 fu) fun j1 =>
  bif (decide (a.1 < (IntKind.i64.wrap (v0 * a.2.1)))) then
    let v2 : Int := (IntKind.i64.wrap (v0 - (1 : Int)))
    j1 (v2)
  else
  j1 (v0)
  else none
def R_Floor_an : An := (.n none .z (.n none .z (.n (some ⟨[], [], [], [.reg 5 (.int .i64)], 0, []⟩) (.n none .z (.n none .z .z)) (.n none .z .z))))
noncomputable def R_Floor_dc : List (Nat × Ctr) := []
def R_Floor_ctr : Ctr := ⟨(.pair (.int .i64) (.pair (.int .i64) .unit)), (.pair (.int .i64) .unit), R_Floor_r, 26⟩
theorem R_Floor_ok : CtrOk Try.prog 26 R_Floor_ctr := ctr_ok (l := R_Floor_dc) (f := 12) (an := R_Floor_an) trivial fun fu x => by kernel_rfl
def R_Round_j1 (fu : Nat) (v2 : Int) : Option ((Int) × (Unit)) :=
  some ((v2, ()))
def R_Round_r (fu : Nat) (a : (Int) × ((Int) × (Unit))) : Option ((Int) × (Unit)) :=
  bindO (R_Floor_r fu ((a.1, (a.2.1, ())))) fun v0 =>
  let v1 : Int := v0.1
  joinF (R_Round_j1 fu) fun j2 =>
  bif (decide (a.2.1 ≤ (IntKind.i64.wrap ((2 : Int) * (IntKind.i64.wrap (a.1 - (IntKind.i64.wrap (v1 * a.2.1)))))))) then
    let v3 : Int := (IntKind.i64.wrap (v1 + (1 : Int)))
    j2 (v3)
  else
  j2 (v1)
def R_Round_an : An := (.n none .z (.n none .z (.n (some ⟨[], [], [], [.reg 5 (.int .i64)], 0, []⟩) (.n none .z (.n none .z .z)) (.n none .z .z))))
noncomputable def R_Round_dc : List (Nat × Ctr) := [(26, R_Floor_ctr)]
def R_Round_ctr : Ctr := ⟨(.pair (.int .i64) (.pair (.int .i64) .unit)), (.pair (.int .i64) .unit), R_Round_r, 32⟩
theorem R_Round_ok : CtrOk Try.prog 32 R_Round_ctr := ctr_ok (l := R_Round_dc) (f := 12) (an := R_Round_an) ⟨R_Floor_ok, trivial⟩ fun fu x => by kernel_rfl
def strip_Check_j4 (fu : Nat) (v1 : Int) (j1 : (Int) → Option ((Int) × (Unit))) (v4 : Bool) : Option ((Int) × (Unit)) :=
  bif v4 then
    some (((18 : Int), ()))
  else
  j1 ((IntKind.i64.wrap (v1 + (1 : Int))))
def strip_Check_j3 (fu : Nat) (a : (List ((Int) × ((Int) × ((Int) × ((Int) × (Int)))))) × ((Int) × ((Int) × (Unit)))) (v1 : Int) (v2 : (Int) × ((Int) × ((Int) × ((Int) × (Int))))) (j1 : (Int) → Option ((Int) × (Unit))) (v3 : Bool) : Option ((Int) × (Unit)) :=
  bif v3 then
    some (((3 : Int), ()))
  else
  joinF (strip_Check_j4 fu v1 j1) fun j4 =>
  bif (decide ((0 : Int) < v1)) then
    bif ((decide ((0 : Int) ≤ (IntKind.i64.wrap (v1 - (1 : Int))))) && (decide ((IntKind.i64.wrap (v1 - (1 : Int))) < (List.length a.1 : Int)))) then
    let v5 : (Int) × ((Int) × ((Int) × ((Int) × (Int)))) := (List.getD a.1 (Int.toNat (IntKind.i64.wrap (v1 - (1 : Int)))) (0, (0, (0, (0, 0)))))
    bif ((decide ((0 : Int) ≤ (IntKind.i64.wrap (v1 - (1 : Int))))) && (decide ((IntKind.i64.wrap (v1 - (1 : Int))) < (List.length a.1 : Int)))) then
    let v6 : (Int) × ((Int) × ((Int) × ((Int) × (Int)))) := (List.getD a.1 (Int.toNat (IntKind.i64.wrap (v1 - (1 : Int)))) (0, (0, (0, (0, 0)))))
    j4 ((decide (v2.1 < (IntKind.i64.wrap (v5.1 + v6.2.1)))))
    else none
    else none
  else
  j4 (false)
def strip_Check_l2 (fu : Nat) (a : (List ((Int) × ((Int) × ((Int) × ((Int) × (Int)))))) × ((Int) × ((Int) × (Unit)))) (j1 : (Int) → Option ((Int) × (Unit))) (v1 : Int) : Option ((Int) × (Unit)) :=
  bif (decide (v1 < (List.length a.1 : Int))) then
    bif ((decide ((0 : Int) ≤ v1)) && (decide (v1 < (List.length a.1 : Int)))) then
    let v2 : (Int) × ((Int) × ((Int) × ((Int) × (Int)))) := (List.getD a.1 (Int.toNat v1) (0, (0, (0, (0, 0)))))
    joinF (strip_Check_j3 fu a v1 v2 j1) fun j3 =>
    bif (decide (v2.2.2.1 < (0 : Int))) then
      j3 (true)
    else
    bif (decide ((1 : Int) < v2.2.2.1)) then
      j3 (true)
    else
    bif (decide (v2.2.2.2.1 < (0 : Int))) then
      j3 (true)
    else
    bif (decide (a.2.1 ≤ v2.2.2.2.1)) then
      j3 (true)
    else
    bif (decide (v2.2.2.2.2 < (0 : Int))) then
      j3 (true)
    else
    bif (decide ((16 : Int) ≤ v2.2.2.2.2)) then
      j3 (true)
    else
    bif (decide (v2.2.1 < (1 : Int))) then
      j3 (true)
    else
    bif (decide (a.2.2.1 < v2.2.1)) then
      j3 (true)
    else
    bif (decide (v2.1 < (0 : Int))) then
      j3 (true)
    else
    j3 ((decide ((IntKind.i64.wrap (a.2.2.1 - v2.2.1)) < v2.1)))
    else none
  else
  some (((0 : Int), ()))
def strip_Check_j1 (fu : Nat) (a : (List ((Int) × ((Int) × ((Int) × ((Int) × (Int)))))) × ((Int) × ((Int) × (Unit)))) (v0 : Bool) : Option ((Int) × (Unit)) :=
  bif v0 then
    some (((3 : Int), ()))
  else
  loopF (strip_Check_l2 fu a) fu ((0 : Int))
def strip_Check_r (fu : Nat) (a : (List ((Int) × ((Int) × ((Int) × ((Int) × (Int)))))) × ((Int) × ((Int) × (Unit)))) : Option ((Int) × (Unit)) :=
  bif (decide ((256 : Int) < (List.length a.1 : Int))) then
    some (((2 : Int), ()))
  else
  joinF (strip_Check_j1 fu a) fun j0 =>
  bif (decide (a.2.1 < (1 : Int))) then
    j0 (true)
  else
  bif (decide ((8 : Int) < a.2.1)) then
    j0 (true)
  else
  bif (decide (a.2.2.1 < (1 : Int))) then
    j0 (true)
  else
  j0 ((decide ((1024 : Int) < a.2.2.1)))
def strip_Check_an : An := (.n none .z (.n none (.n none .z (.n none (.n none .z .z) .z)) (.n none (.n (some ⟨[1, 2, 0], [], [], [.reg 25 .bool], 0, []⟩) .z (.n none (.n none .z .z) .z)) (.n none (.n none .z (.n none (.n (some ⟨[26, 1, 2, 0, 27], [], [], [.reg 28 (.int .i64)], 0, []⟩) (.n none .z (.n none .z (.n none (.n none (.n none .z (.n none (.n (some ⟨[8, 7, 28], [0], [], [.reg 86 .bool], 0, []⟩) .z (.n none (.n none .z .z) .z)) (.n (some ⟨[28], [0], [], [.reg 106 .bool], 0, []⟩) (.dr [] []) (.n none (.n none .z .z) .z)))) .z) .z))) .z) .z)) (.n none .z .z)))))
noncomputable def strip_Check_dc : List (Nat × Ctr) := []
def strip_Check_ctr : Ctr := ⟨(.pair (.list (.pair (.int .i64) (.pair (.int .i64) (.pair (.int .i64) (.pair (.int .i64) (.int .i64)))))) (.pair (.int .i64) (.pair (.int .i64) .unit))), (.pair (.int .i64) .unit), strip_Check_r, 31⟩
theorem strip_Check_ok : CtrOk Try.prog 31 strip_Check_ctr := ctr_ok (l := strip_Check_dc) (f := 12) (an := strip_Check_an) trivial fun fu x => by kernel_rfl
def R_PatchesErr_j3 (fu : Nat) (v1 : (Int) × (Int)) (v2 : (Int) × ((Int) × ((Int) × ((Int) × (Int))))) (j1 : ((Int) × (Int)) → Option ((Int) × (Unit))) (v3 : Bool) : Option ((Int) × (Unit)) :=
  bif v3 then
    some (((3 : Int), ()))
  else
  bif (decide (v2.1 < v1.1)) then
    some (((18 : Int), ()))
  else
  let v4 : Int := (IntKind.i64.wrap (v2.1 + v2.2.1))
  j1 ((v4, (IntKind.i64.wrap (v1.2 + (1 : Int)))))
def R_PatchesErr_l2 (fu : Nat) (a : (List ((Int) × ((Int) × ((Int) × ((Int) × (Int)))))) × ((Int) × ((Int) × (Unit)))) (j1 : ((Int) × (Int)) → Option ((Int) × (Unit))) (v1 : (Int) × (Int)) : Option ((Int) × (Unit)) :=
  bif (decide (v1.2 < (List.length a.1 : Int))) then
    bif ((decide ((0 : Int) ≤ v1.2)) && (decide (v1.2 < (List.length a.1 : Int)))) then
    let v2 : (Int) × ((Int) × ((Int) × ((Int) × (Int)))) := (List.getD a.1 (Int.toNat v1.2) (0, (0, (0, (0, 0)))))
    joinF (R_PatchesErr_j3 fu v1 v2 j1) fun j3 =>
    bindO (R_Within_r fu ((v2.2.2.1, ((0 : Int), ((1 : Int), ()))))) fun v4 =>
    bif (!v4.1) then
      j3 (true)
    else
    bindO (R_Within_r fu ((v2.2.2.2.1, ((0 : Int), ((IntKind.i64.wrap (a.2.1 - (1 : Int))), ()))))) fun v5 =>
    bif (!v5.1) then
      j3 (true)
    else
    bindO (R_Within_r fu ((v2.2.2.2.2, ((0 : Int), ((15 : Int), ()))))) fun v6 =>
    bif (!v6.1) then
      j3 (true)
    else
    bindO (R_Within_r fu ((v2.2.1, ((1 : Int), (a.2.2.1, ()))))) fun v7 =>
    bif (!v7.1) then
      j3 (true)
    else
    bindO (R_Within_r fu ((v2.1, ((0 : Int), ((IntKind.i64.wrap (a.2.2.1 - v2.2.1)), ()))))) fun v8 =>
    j3 ((!v8.1))
    else none
  else
  some (((0 : Int), ()))
def R_PatchesErr_j1 (fu : Nat) (a : (List ((Int) × ((Int) × ((Int) × ((Int) × (Int)))))) × ((Int) × ((Int) × (Unit)))) (v0 : Bool) : Option ((Int) × (Unit)) :=
  bif v0 then
    some (((3 : Int), ()))
  else
  loopF (R_PatchesErr_l2 fu a) fu (((0 : Int), (0 : Int)))
def R_PatchesErr_r (fu : Nat) (a : (List ((Int) × ((Int) × ((Int) × ((Int) × (Int)))))) × ((Int) × ((Int) × (Unit)))) : Option ((Int) × (Unit)) :=
  bif (decide ((256 : Int) < (List.length a.1 : Int))) then
    some (((2 : Int), ()))
  else
  joinF (R_PatchesErr_j1 fu a) fun j0 =>
  bindO (R_Within_r fu ((a.2.1, ((1 : Int), ((8 : Int), ()))))) fun v1 =>
  bif (!v1.1) then
    j0 (true)
  else
  bindO (R_Within_r fu ((a.2.2.1, ((1 : Int), ((1024 : Int), ()))))) fun v2 =>
  j0 ((!v2.1))
def R_PatchesErr_an : An := (.n none .z (.n none (.n none .z (.n none (.n none .z .z) .z)) (.n none (.n (some ⟨[0, 1, 2], [], [], [.reg 20 .bool], 0, []⟩) .z (.n none (.n none .z .z) .z)) (.n none .z (.n none (.n none .z (.n none (.n (some ⟨[21, 1, 2, 22], [], [], [.reg 7 (.int .i64), .reg 23 (.int .i64)], 0, []⟩) (.n none .z (.n none .z (.n none (.n none (.n none .z (.n none (.n (some ⟨[7, 9, 23], [0], [], [.reg 61 .bool], 0, []⟩) .z (.n none (.n none .z .z) .z)) (.n none (.n none .z (.n none (.n none .z .z) .z)) .z))) .z) .z))) .z) .z)) (.n none .z .z))))))
noncomputable def R_PatchesErr_dc : List (Nat × Ctr) := [(17, R_Within_ctr)]
def R_PatchesErr_ctr : Ctr := ⟨(.pair (.list (.pair (.int .i64) (.pair (.int .i64) (.pair (.int .i64) (.pair (.int .i64) (.int .i64)))))) (.pair (.int .i64) (.pair (.int .i64) .unit))), (.pair (.int .i64) .unit), R_PatchesErr_r, 30⟩
theorem R_PatchesErr_ok : CtrOk Try.prog 30 R_PatchesErr_ctr := ctr_ok (l := R_PatchesErr_dc) (f := 12) (an := R_PatchesErr_an) ⟨R_Within_ok, trivial⟩ fun fu x => by kernel_rfl
def curve_Nearest_j1 (fu : Nat) (v3 : Int) : Option ((Int) × (Unit)) :=
  some ((v3, ()))
def curve_Nearest_r (fu : Nat) (a : (Int) × ((Int) × (Unit))) : Option ((Int) × (Unit)) :=
  let v0 : Int := (IntKind.i64.wrap ((IntKind.i64.wrap ((2 : Int) * a.1)) + a.2.1))
  let v1 : Int := (IntKind.i64.wrap ((2 : Int) * a.2.1))
  bif (decide (v1 ≠ (0 : Int))) then
  let v2 : Int := (IntKind.i64.wrap (Int.tdiv v0 v1))
  joinF (curve_Nearest_j1 fu) fun j3 =>
  bif (decide (v1 ≠ (0 : Int))) then
  bif (decide ((Int.tmod v0 v1) < (0 : Int))) then
    let v4 : Int := (IntKind.i64.wrap (v2 - (1 : Int)))
    j3 (v4)
  else
  j3 (v2)
  else none
  else none
def curve_Nearest_an : An := (.n none .z (.n none .z (.n none .z (.n (some ⟨[], [], [], [.reg 5 (.int .i64)], 0, []⟩) (.n none .z (.n none .z .z)) (.n none .z .z)))))
noncomputable def curve_Nearest_dc : List (Nat × Ctr) := []
def curve_Nearest_ctr : Ctr := ⟨(.pair (.int .i64) (.pair (.int .i64) .unit)), (.pair (.int .i64) .unit), curve_Nearest_r, 82⟩
theorem curve_Nearest_ok : CtrOk Try.prog 82 curve_Nearest_ctr := ctr_ok (l := curve_Nearest_dc) (f := 12) (an := curve_Nearest_an) trivial fun fu x => by kernel_rfl
def strip_area_j3 (fu : Nat) (j2 : ((Int) × (Int)) → Option ((Int) × (Unit))) (v3 : (Int) × (Int)) : Option ((Int) × (Unit)) :=
  j2 ((v3.2, (IntKind.i64.wrap (v3.1 + (1 : Int)))))
def strip_area_l2 (fu : Nat) (a : ((Int) × ((Int) × (List (Int)))) × (((Int) × ((Int) × ((Int) × ((Int) × (Int))))) × (Unit))) (v0 : (Int) × (Int)) (v1 : Int) (j0 : ((Int) × (Int)) → Option ((Int) × (Unit))) (j2 : ((Int) × (Int)) → Option ((Int) × (Unit))) (v2 : (Int) × (Int)) : Option ((Int) × (Unit)) :=
  bif (decide (v2.2 < a.2.1.2.1)) then
    joinF (strip_area_j3 fu j2) fun j3 =>
    let v4 : Int := v2.2
    bindO (bitmap_Is_r fu ((a.1, ((IntKind.i64.wrap (a.2.1.1 + v4)), (v1, ()))))) fun v5 =>
    bif v5.1 then
      let v6 : Int := (IntKind.i64.wrap (v2.1 + (1 : Int)))
      j3 ((v2.2, v6))
    else
    j3 ((v2.2, v2.1))
  else
  j0 ((v2.1, (IntKind.i64.wrap (v0.2 + (1 : Int)))))
def strip_area_l1 (fu : Nat) (a : ((Int) × ((Int) × (List (Int)))) × (((Int) × ((Int) × ((Int) × ((Int) × (Int))))) × (Unit))) (j0 : ((Int) × (Int)) → Option ((Int) × (Unit))) (v0 : (Int) × (Int)) : Option ((Int) × (Unit)) :=
  bif (decide (v0.2 < a.1.2.1)) then
    let v1 : Int := v0.2
    loopF (strip_area_l2 fu a v0 v1 j0) fu ((v0.1, (0 : Int)))
  else
  bindO (curve_Nearest_r fu (((IntKind.i64.wrap ((255 : Int) * v0.1)), ((IntKind.i64.wrap (a.2.1.2.1 * a.1.2.1)), ())))) fun v1 =>
  let v2 : Int := v1.1
  some ((v2, ()))
def strip_area_r (fu : Nat) (a : ((Int) × ((Int) × (List (Int)))) × (((Int) × ((Int) × ((Int) × ((Int) × (Int))))) × (Unit))) : Option ((Int) × (Unit)) :=
  loopF (strip_area_l1 fu a) fu (((0 : Int), (0 : Int)))
def strip_area_an : An := (.n none .z (.n none .z (.n none (.n none .z (.n none (.n (some ⟨[0, 3, 11, 4], [0], [], [.reg 5 (.int .i64), .reg 12 (.int .i64)], 0, []⟩) (.n none .z (.n none .z (.n none (.n none (.n none .z (.n none .z (.n none (.n (some ⟨[12, 6, 16], [], [], [.reg 5 (.int .i64), .reg 17 (.int .i64)], 0, []⟩) (.n none .z (.n none .z (.n (some ⟨[], [], [], [.reg 17 (.int .i64), .reg 5 (.int .i64)], 0, []⟩) (.n none (.n none .z (.n none .z (.n none .z .z))) .z) .z))) .z) .z))) .z) .z))) .z) .z)) (.n none (.dr [] []) .z))))
noncomputable def strip_area_dc : List (Nat × Ctr) := [(60, bitmap_Is_ctr), (82, curve_Nearest_ctr)]
def strip_area_ctr : Ctr := ⟨(.pair (.ptr (.pair (.int .i64) (.pair (.int .i64) (.list (.int .u8))))) (.pair (.agg (.pair (.int .i64) (.pair (.int .i64) (.pair (.int .i64) (.pair (.int .i64) (.int .i64)))))) .unit)), (.pair (.int .i64) .unit), strip_area_r, 64⟩
theorem strip_area_ok : CtrOk Try.prog 64 strip_area_ctr := ctr_ok (l := strip_area_dc) (f := 12) (an := strip_area_an) ⟨bitmap_Is_ok, ⟨curve_Nearest_ok, trivial⟩⟩ fun fu x => by kernel_rfl
def strip_Read_j2 (fu : Nat) (v2 : Int) (j2 : (Int) → Option ((List ((Int) × ((Int) × ((Int) × (Int))))) × ((Int) × (Unit)))) (v6 : Bool) : Option ((List ((Int) × ((Int) × ((Int) × (Int))))) × ((Int) × (Unit))) :=
  bif v6 then
    some ((([] : List ((Int) × ((Int) × ((Int) × (Int))))), ((4 : Int), ())))
  else
  j2 ((IntKind.i64.wrap (v2 + (1 : Int))))
def strip_Read_j4 (fu : Nat) (j6 : ((Int) × (List ((Int) × ((Int) × ((Int) × (Int)))))) → Option ((List ((Int) × ((Int) × ((Int) × (Int))))) × ((Int) × (Unit)))) (v7 : (Int) × (List ((Int) × ((Int) × ((Int) × (Int)))))) : Option ((List ((Int) × ((Int) × ((Int) × (Int))))) × ((Int) × (Unit))) :=
  let v8 : Int := (IntKind.i64.wrap (v7.1 + (1 : Int)))
  j6 ((v8, v7.2))
def strip_Read_j5 (fu : Nat) (a : (List ((Int) × ((Int) × ((Int) × ((Int) × (Int)))))) × ((List ((Int) × ((Int) × (List (Int))))) × (Unit))) (v6 : (Int) × (List ((Int) × ((Int) × ((Int) × (Int)))))) (v8 : (Int) × ((Int) × ((Int) × ((Int) × (Int))))) (v9 : (Int) × ((Int) × ((Int) × ((Int) × (Int))))) (j7 : ((Int) × (List ((Int) × ((Int) × ((Int) × (Int)))))) → Option ((List ((Int) × ((Int) × ((Int) × (Int))))) × ((Int) × (Unit)))) (v10 : Bool) : Option ((List ((Int) × ((Int) × ((Int) × (Int))))) × ((Int) × (Unit))) :=
  bif v10 then
    bif ((decide ((0 : Int) ≤ v8.2.2.2.1)) && (decide (v8.2.2.2.1 < (List.length a.2.1 : Int)))) then
    let v11 : (Int) × ((Int) × (List (Int))) := (List.getD a.2.1 (Int.toNat v8.2.2.2.1) (0, (0, [])))
    bindO (strip_area_r fu ((v11, ((v8.1, (v8.2.1, (v8.2.2.1, (v8.2.2.2.1, v8.2.2.2.2)))), ())))) fun v12 =>
    bif ((decide ((0 : Int) ≤ v8.2.2.2.1)) && (decide (v8.2.2.2.1 < (List.length a.2.1 : Int)))) then
    let v13 : (Int) × ((Int) × (List (Int))) := (List.getD a.2.1 (Int.toNat v8.2.2.2.1) (0, (0, [])))
    bindO (strip_area_r fu ((v13, ((v9.1, (v9.2.1, (v9.2.2.1, (v9.2.2.2.1, v9.2.2.2.2)))), ())))) fun v14 =>
    bif (decide ((((List.length v6.2 : Int) + (List.length ((v8.2.2.2.1, (v8.2.2.2.2, (v12.1, v14.1))) :: ([] : List ((Int) × ((Int) × ((Int) × (Int)))))) : Int)) * (32 : Int)) ≤ (140737488355328 : Int))) then
    j7 ((v6.1, (v6.2 ++ ((v8.2.2.2.1, (v8.2.2.2.2, (v12.1, v14.1))) :: ([] : List ((Int) × ((Int) × ((Int) × (Int)))))))))
    else none
    else none
    else none
  else
  j7 ((v6.1, v6.2))
def strip_Read_l3 (fu : Nat) (a : (List ((Int) × ((Int) × ((Int) × ((Int) × (Int)))))) × ((List ((Int) × ((Int) × (List (Int))))) × (Unit))) (j6 : ((Int) × (List ((Int) × ((Int) × ((Int) × (Int)))))) → Option ((List ((Int) × ((Int) × ((Int) × (Int))))) × ((Int) × (Unit)))) (v6 : (Int) × (List ((Int) × ((Int) × ((Int) × (Int)))))) : Option ((List ((Int) × ((Int) × ((Int) × (Int))))) × ((Int) × (Unit))) :=
  bif (decide (v6.1 < (List.length a.1 : Int))) then
    joinF (strip_Read_j4 fu j6) fun j7 =>
    bif ((decide ((0 : Int) ≤ (IntKind.i64.wrap (v6.1 - (1 : Int))))) && (decide ((IntKind.i64.wrap (v6.1 - (1 : Int))) < (List.length a.1 : Int)))) then
    let v8 : (Int) × ((Int) × ((Int) × ((Int) × (Int)))) := (List.getD a.1 (Int.toNat (IntKind.i64.wrap (v6.1 - (1 : Int)))) (0, (0, (0, (0, 0)))))
    bif ((decide ((0 : Int) ≤ v6.1)) && (decide (v6.1 < (List.length a.1 : Int)))) then
    let v9 : (Int) × ((Int) × ((Int) × ((Int) × (Int)))) := (List.getD a.1 (Int.toNat v6.1) (0, (0, (0, (0, 0)))))
    joinF (strip_Read_j5 fu a v6 v8 v9 j7) fun j10 =>
    bif (decide (v8.2.2.1 = (0 : Int))) then
      bif (decide (v9.2.2.1 = (1 : Int))) then
        bif (decide (v8.2.2.2.1 = v9.2.2.2.1)) then
          j10 ((decide (v8.2.2.2.2 = v9.2.2.2.2)))
        else
        j10 (false)
      else
      j10 (false)
    else
    j10 (false)
    else none
    else none
  else
  some ((v6.2, ((0 : Int), ())))
def strip_Read_l1 (fu : Nat) (a : (List ((Int) × ((Int) × ((Int) × ((Int) × (Int)))))) × ((List ((Int) × ((Int) × (List (Int))))) × (Unit))) (j2 : (Int) → Option ((List ((Int) × ((Int) × ((Int) × (Int))))) × ((Int) × (Unit)))) (v2 : Int) : Option ((List ((Int) × ((Int) × ((Int) × (Int))))) × ((Int) × (Unit))) :=
  bif (decide (v2 < (List.length a.2.1 : Int))) then
    bif ((decide ((0 : Int) ≤ v2)) && (decide (v2 < (List.length a.2.1 : Int)))) then
    let v3 : (Int) × ((Int) × (List (Int))) := (List.getD a.2.1 (Int.toNat v2) (0, (0, [])))
    bindO (bitmap_Check_r fu (((v3.1, (v3.2.1, v3.2.2)), ()))) fun v4 =>
    let v5 : Int := v4.1
    bif (decide (v5 ≠ (0 : Int))) then
      some ((([] : List ((Int) × ((Int) × ((Int) × (Int))))), (v5, ())))
    else
    joinF (strip_Read_j2 fu v2 j2) fun j6 =>
    bif (decide ((0 : Int) < (List.length a.2.1 : Int))) then
    let v7 : (Int) × ((Int) × (List (Int))) := (List.getD a.2.1 (Int.toNat (0 : Int)) (0, (0, [])))
    bif (decide (v3.1 ≠ v7.1)) then
      j6 (true)
    else
    bif (decide ((0 : Int) < (List.length a.2.1 : Int))) then
    let v8 : (Int) × ((Int) × (List (Int))) := (List.getD a.2.1 (Int.toNat (0 : Int)) (0, (0, [])))
    j6 ((decide (v3.2.1 ≠ v8.2.1)))
    else none
    else none
    else none
  else
  bif (decide ((0 : Int) < (List.length a.2.1 : Int))) then
  let v3 : (Int) × ((Int) × (List (Int))) := (List.getD a.2.1 (Int.toNat (0 : Int)) (0, (0, [])))
  bindO (strip_Check_r fu ((a.1, ((List.length a.2.1 : Int), (v3.1, ()))))) fun v4 =>
  let v5 : Int := v4.1
  bif (decide (v5 ≠ (0 : Int))) then
    some ((([] : List ((Int) × ((Int) × ((Int) × (Int))))), (v5, ())))
  else
  loopF (strip_Read_l3 fu a) fu (((1 : Int), ([] : List ((Int) × ((Int) × ((Int) × (Int)))))))
  else none
def strip_Read_r (fu : Nat) (a : (List ((Int) × ((Int) × ((Int) × ((Int) × (Int)))))) × ((List ((Int) × ((Int) × (List (Int))))) × (Unit))) : Option ((List ((Int) × ((Int) × ((Int) × (Int))))) × ((Int) × (Unit))) :=
  let v0 : Bool := (decide ((8 : Int) < (List.length a.2.1 : Int)))
  bif v0 then
    some ((([] : List ((Int) × ((Int) × ((Int) × (Int))))), ((2 : Int), ())))
  else
  let v1 : Bool := (decide ((List.length a.2.1 : Int) = (0 : Int)))
  bif v1 then
    some ((([] : List ((Int) × ((Int) × ((Int) × (Int))))), ((1 : Int), ())))
  else
  loopF (strip_Read_l1 fu a) fu ((0 : Int))
def strip_Read_an : An := (.n none .z (.n none (.n none (.n none .z (.n none (.n none .z .z) (.n none .z (.n none (.n none .z .z) .z)))) .z) (.n none (.n none .z (.n none (.n (some ⟨[1, 0, 22, 23], [], [], [.reg 24 (.int .i64)], 0, []⟩) (.n none .z (.n none .z (.n none (.n none (.n none .z (.n none (.n none .z (.n none .z (.n none (.n none .z .z) .z))) (.n (some ⟨[24], [0], [], [.reg 48 .bool], 0, []⟩) (.dr [] []) (.n none (.n none .z .z) .z)))) .z) .z))) .z) .z)) (.n none (.n none .z (.n none .z (.n none (.n none .z .z) .z))) (.n none .z (.n none (.n none .z (.n none (.n (some ⟨[0, 1], [], [(10, (.osl 0 0))], [.reg 11 (.int .i64), .row 0 true (.pair (.int .i64) (.pair (.int .i64) (.pair (.int .i64) (.int .i64)))) 63 0], 1, [(10, (.pair (.int .i64) (.pair (.int .i64) (.pair (.int .i64) (.int .i64)))), 63)]⟩) (.n none (.n none .z .z) (.n (some ⟨[], [], [(10, (.osl 0 1))], [.reg 11 (.int .i64), .row 0 true (.pair (.int .i64) (.pair (.int .i64) (.pair (.int .i64) (.int .i64)))) 63 1], 0, []⟩) (.n none (.n none (.dr [] []) (.n (some ⟨[13, 12, 11], [0, 1, 2], [(10, (.osl 0 0))], [.reg 97 .bool], 0, []⟩) .z (.n none (.dr [] []) .z))) .z) .z)) .z) .z)) (.n none .z .z)))))))
noncomputable def strip_Read_dc : List (Nat × Ctr) := [(31, strip_Check_ctr), (38, bitmap_Check_ctr), (64, strip_area_ctr)]
def strip_Read_ctr : Ctr := ⟨(.pair (.list (.pair (.int .i64) (.pair (.int .i64) (.pair (.int .i64) (.pair (.int .i64) (.int .i64)))))) (.pair (.list (.pair (.int .i64) (.pair (.int .i64) (.list (.int .u8))))) .unit)), (.pair (.list (.pair (.int .i64) (.pair (.int .i64) (.pair (.int .i64) (.int .i64))))) (.pair (.int .i64) .unit)), strip_Read_r, 29⟩
theorem strip_Read_ok : CtrOk Try.prog 29 strip_Read_ctr := ctr_ok (l := strip_Read_dc) (f := 12) (an := strip_Read_an) ⟨strip_Check_ok, ⟨bitmap_Check_ok, ⟨strip_area_ok, trivial⟩⟩⟩ fun fu x => by kernel_rfl
def strip_Locate_j4 (fu : Nat) (j7 : ((Int) × ((Int) × ((Int) × (Int)))) → Option (((Int) × (Int)) × ((Int) × (Unit)))) (v8 : (Int) × ((Int) × ((Int) × (Int)))) : Option (((Int) × (Int)) × ((Int) × (Unit))) :=
  let v9 : Int := (IntKind.i64.wrap (v8.1 + (1 : Int)))
  j7 ((v8.2.1, (v9, (v8.2.2.1, v8.2.2.2))))
def strip_Locate_j7 (fu : Nat) (j12 : ((Int) × (Int)) → Option (((Int) × (Int)) × ((Int) × (Unit)))) (v13 : (Int) × (Int)) : Option (((Int) × (Int)) × ((Int) × (Unit))) :=
  let v14 : Int := (IntKind.i64.wrap (v13.1 + (1 : Int)))
  j12 ((v13.2, v14))
def strip_Locate_j8 (fu : Nat) (v7 : (Int) × ((Int) × ((Int) × (Int)))) (v12 : (Int) × (Int)) (j8 : ((Int) × ((Int) × ((Int) × (Int)))) → Option (((Int) × (Int)) × ((Int) × (Unit)))) (j13 : ((Int) × (Int)) → Option (((Int) × (Int)) × ((Int) × (Unit)))) (v14 : (Bool) × (Int)) : Option (((Int) × (Int)) × ((Int) × (Unit))) :=
  bif v14.1 then
    let v15 : Int := (IntKind.i64.wrap (v14.2 + (1 : Int)))
    bif (decide (v7.1 ≤ v15)) then
      j8 ((v7.2.1, (v7.1, (v7.2.2.1, v7.2.2.2))))
    else
    j13 ((v12.2, v15))
  else
  j13 ((v12.2, v14.2))
def strip_Locate_l6 (fu : Nat) (a : ((Int) × ((Int) × (List (Int)))) × ((Int) × (Unit))) (v5 : (Int) × ((Int) × ((Int) × (Int)))) (v7 : (Int) × ((Int) × ((Int) × (Int)))) (v10 : (Int) × (Int)) (j8 : ((Int) × ((Int) × ((Int) × (Int)))) → Option (((Int) × (Int)) × ((Int) × (Unit)))) (j10 : ((Int) × (Int)) → Option (((Int) × (Int)) × ((Int) × (Unit)))) (j12 : ((Int) × (Int)) → Option (((Int) × (Int)) × ((Int) × (Unit)))) (v12 : (Int) × (Int)) : Option (((Int) × (Int)) × ((Int) × (Unit))) :=
  bif (decide (v12.2 ≤ a.2.1)) then
    joinF (strip_Locate_j7 fu j12) fun j13 =>
    joinF (strip_Locate_j8 fu v7 v12 j8 j13) fun j14 =>
    bindO (bitmap_Is_r fu (((a.1.1, (a.1.2.1, a.1.2.2)), ((IntKind.i64.wrap (v7.2.1 + v12.2)), ((IntKind.i64.wrap (v5.2.1 + v10.2)), ()))))) fun v15 =>
    bif (decide (v12.2 = (0 : Int))) then
      j14 (((v15.1 != true), v12.1))
    else
    j14 (((v15.1 != (decide (v10.2 = (0 : Int)))), v12.1))
  else
  let v13 : Int := (IntKind.i64.wrap (v10.2 + (1 : Int)))
  j10 ((v12.1, v13))
def strip_Locate_l5 (fu : Nat) (a : ((Int) × ((Int) × (List (Int)))) × ((Int) × (Unit))) (v5 : (Int) × ((Int) × ((Int) × (Int)))) (v7 : (Int) × ((Int) × ((Int) × (Int)))) (j8 : ((Int) × ((Int) × ((Int) × (Int)))) → Option (((Int) × (Int)) × ((Int) × (Unit)))) (j10 : ((Int) × (Int)) → Option (((Int) × (Int)) × ((Int) × (Unit)))) (v10 : (Int) × (Int)) : Option (((Int) × (Int)) × ((Int) × (Unit))) :=
  bif (decide (v10.2 ≤ a.2.1)) then
    let v11 : Int := (IntKind.i64.wrap (-a.2.1))
    loopF (strip_Locate_l6 fu a v5 v7 v10 j8 j10) fu ((v10.1, v11))
  else
  let v11 : Int := v10.1
  j8 ((v7.2.1, (v11, (v7.2.1, v5.2.1))))
def strip_Locate_l3 (fu : Nat) (a : ((Int) × ((Int) × (List (Int)))) × ((Int) × (Unit))) (v5 : (Int) × ((Int) × ((Int) × (Int)))) (j5 : ((Int) × ((Int) × ((Int) × (Int)))) → Option (((Int) × (Int)) × ((Int) × (Unit)))) (j7 : ((Int) × ((Int) × ((Int) × (Int)))) → Option (((Int) × (Int)) × ((Int) × (Unit)))) (v7 : (Int) × ((Int) × ((Int) × (Int)))) : Option (((Int) × (Int)) × ((Int) × (Unit))) :=
  bif (decide (v7.2.1 < (IntKind.i64.wrap (a.1.1 - a.2.1)))) then
    joinF (strip_Locate_j4 fu j7) fun j8 =>
    let v9 : Int := (IntKind.i64.wrap (-a.2.1))
    loopF (strip_Locate_l5 fu a v5 v7 j8) fu (((0 : Int), v9))
  else
  let v8 : Int := (IntKind.i64.wrap (v5.2.1 + (1 : Int)))
  j5 ((v7.1, (v8, (v7.2.2.1, v7.2.2.2))))
def strip_Locate_l2 (fu : Nat) (a : ((Int) × ((Int) × (List (Int)))) × ((Int) × (Unit))) (j5 : ((Int) × ((Int) × ((Int) × (Int)))) → Option (((Int) × (Int)) × ((Int) × (Unit)))) (v5 : (Int) × ((Int) × ((Int) × (Int)))) : Option (((Int) × (Int)) × ((Int) × (Unit))) :=
  bif (decide (v5.2.1 < (IntKind.i64.wrap (a.1.2.1 - a.2.1)))) then
    let v6 : Int := a.2.1
    loopF (strip_Locate_l3 fu a v5 j5) fu ((v5.1, (v6, (v5.2.2.1, v5.2.2.2))))
  else
  bif (decide ((IntKind.i64.wrap (Int.tdiv a.2.1 (2 : Int))) < v5.1)) then
    some ((((0 : Int), (0 : Int)), ((21 : Int), ())))
  else
  some (((v5.2.2.1, v5.2.2.2), ((0 : Int), ())))
def strip_Locate_j1 (fu : Nat) (a : ((Int) × ((Int) × (List (Int)))) × ((Int) × (Unit))) (v2 : Bool) : Option (((Int) × (Int)) × ((Int) × (Unit))) :=
  bif v2 then
    some ((((0 : Int), (0 : Int)), ((3 : Int), ())))
  else
  let v3 : Int := (IntKind.i64.wrap ((IntKind.i64.wrap (Int.tdiv a.2.1 (2 : Int))) + (1 : Int)))
  let v4 : Int := a.2.1
  loopF (strip_Locate_l2 fu a) fu ((v3, (v4, ((0 : Int), (0 : Int)))))
def strip_Locate_r (fu : Nat) (a : ((Int) × ((Int) × (List (Int)))) × ((Int) × (Unit))) : Option (((Int) × (Int)) × ((Int) × (Unit))) :=
  bindO (bitmap_Check_r fu (((a.1.1, (a.1.2.1, a.1.2.2)), ()))) fun v0 =>
  let v1 : Int := v0.1
  bif (decide (v1 ≠ (0 : Int))) then
    some ((((0 : Int), (0 : Int)), (v1, ())))
  else
  joinF (strip_Locate_j1 fu a) fun j2 =>
  bif (decide (a.2.1 < (1 : Int))) then
    j2 (true)
  else
  j2 ((decide ((16 : Int) < a.2.1)))
def strip_Locate_an : An := (.n none .z (.n none (.n none .z (.n none .z (.n none (.n none .z .z) .z))) (.n none (.n (some ⟨[4, 1, 2], [0, 1], [], [.reg 25 .bool], 0, []⟩) .z (.n none (.n none .z .z) .z)) (.n none .z (.n none (.n none .z (.n none (.n (some ⟨[4, 7, 1, 2], [0, 1], [], [.reg 8 (.int .i64), .reg 9 (.int .i64), .box 2 [(.int .i64), (.int .i64)] 27], 0, []⟩) (.n none (.n none .z .z) (.n none (.n none (.n none (.n none .z (.n none .z (.n none (.n (some ⟨[9], [], [], [.reg 8 (.int .i64), .reg 10 (.int .i64), .box 2 [(.int .i64), (.int .i64)] 27], 0, []⟩) (.n none (.n none .z .z) (.n (some ⟨[], [], [], [.reg 10 (.int .i64), .reg 8 (.int .i64), .box 2 [(.int .i64), (.int .i64)] 27], 0, []⟩) (.n none (.n none .z (.n none (.n none .z (.n none (.n (some ⟨[10, 8], [2], [], [.reg 11 (.int .i64), .reg 12 (.int .i64)], 0, []⟩) (.n none (.n none .z .z) (.n none (.n none (.n none .z (.n none (.n (some ⟨[12], [], [], [.reg 11 (.int .i64), .reg 13 (.int .i64)], 0, []⟩) (.n none (.n none .z .z) (.n (some ⟨[], [], [], [.reg 13 (.int .i64), .reg 11 (.int .i64)], 0, []⟩) (.n none (.n (some ⟨[13], [], [], [.reg 76 .bool, .reg 11 (.int .i64)], 0, []⟩) .z (.n none (.n none .z (.n none .z .z)) .z)) .z) .z)) .z) .z)) .z) .z)) .z) .z)) .z)) .z) .z)) .z) .z))) .z) .z) .z)) .z) .z)) (.n none (.n none .z (.n none (.n none .z .z) .z)) (.n none .z .z)))))))
noncomputable def strip_Locate_dc : List (Nat × Ctr) := [(38, bitmap_Check_ctr), (60, bitmap_Is_ctr)]
def strip_Locate_ctr : Ctr := ⟨(.pair (.agg (.pair (.int .i64) (.pair (.int .i64) (.list (.int .u8))))) (.pair (.int .i64) .unit)), (.pair (.agg (.pair (.int .i64) (.int .i64))) (.pair (.int .i64) .unit)), strip_Locate_r, 15⟩
theorem strip_Locate_ok : CtrOk Try.prog 15 strip_Locate_ctr := ctr_ok (l := strip_Locate_dc) (f := 12) (an := strip_Locate_an) ⟨bitmap_Check_ok, ⟨bitmap_Is_ok, trivial⟩⟩ fun fu x => by kernel_rfl
def strip_Mark_l2 (fu : Nat) (a : (Int) × (Unit)) (j2 : ((Int) × (List (Int))) → Option (((Int) × ((Int) × (List (Int)))) × ((Int) × (Unit)))) (v2 : (Int) × (List (Int))) : Option (((Int) × ((Int) × (List (Int)))) × ((Int) × (Unit))) :=
  bif (decide (v2.1 < (IntKind.i64.wrap ((IntKind.i64.wrap ((2 : Int) * a.1)) + (1 : Int))))) then
    let v3 : Int := v2.1
    bindO (bitmap_stride_r fu (((IntKind.i64.wrap ((IntKind.i64.wrap ((2 : Int) * a.1)) + (1 : Int))), ()))) fun v4 =>
    bif ((decide ((0 : Int) ≤ (IntKind.i64.wrap ((IntKind.i64.wrap (a.1 * v4.1)) + (IntKind.i64.wrap (Int.tdiv v3 (8 : Int))))))) && (decide ((IntKind.i64.wrap ((IntKind.i64.wrap (a.1 * v4.1)) + (IntKind.i64.wrap (Int.tdiv v3 (8 : Int))))) < (List.length v2.2 : Int)))) then
    bif ((decide ((0 : Int) ≤ (Int.tmod v3 (8 : Int)))) && (decide ((Int.tmod v3 (8 : Int)) ≤ (8 : Int)))) then
    bif ((decide ((0 : Int) ≤ (IntKind.i64.wrap ((IntKind.i64.wrap (a.1 * v4.1)) + (IntKind.i64.wrap (Int.tdiv v3 (8 : Int))))))) && (decide ((IntKind.i64.wrap ((IntKind.i64.wrap (a.1 * v4.1)) + (IntKind.i64.wrap (Int.tdiv v3 (8 : Int))))) < (List.length v2.2 : Int)))) then
    bindO (bitmap_stride_r fu (((IntKind.i64.wrap ((IntKind.i64.wrap ((2 : Int) * a.1)) + (1 : Int))), ()))) fun v5 =>
    bif ((decide ((0 : Int) ≤ (IntKind.i64.wrap ((IntKind.i64.wrap (v3 * v5.1)) + (IntKind.i64.wrap (Int.tdiv a.1 (8 : Int))))))) && (decide ((IntKind.i64.wrap ((IntKind.i64.wrap (v3 * v5.1)) + (IntKind.i64.wrap (Int.tdiv a.1 (8 : Int))))) < (List.length (List.set v2.2 (Int.toNat (IntKind.i64.wrap ((IntKind.i64.wrap (a.1 * v4.1)) + (IntKind.i64.wrap (Int.tdiv v3 (8 : Int)))))) (bits BinOp.or IntKind.u8 (List.getD v2.2 (Int.toNat (IntKind.i64.wrap ((IntKind.i64.wrap (a.1 * v4.1)) + (IntKind.i64.wrap (Int.tdiv v3 (8 : Int)))))) 0) ((128 : Int) / 2 ^ (Int.toNat (Int.tmod v3 (8 : Int)))))) : Int)))) then
    bif ((decide ((0 : Int) ≤ (Int.tmod a.1 (8 : Int)))) && (decide ((Int.tmod a.1 (8 : Int)) ≤ (8 : Int)))) then
    bif ((decide ((0 : Int) ≤ (IntKind.i64.wrap ((IntKind.i64.wrap (v3 * v5.1)) + (IntKind.i64.wrap (Int.tdiv a.1 (8 : Int))))))) && (decide ((IntKind.i64.wrap ((IntKind.i64.wrap (v3 * v5.1)) + (IntKind.i64.wrap (Int.tdiv a.1 (8 : Int))))) < (List.length (List.set v2.2 (Int.toNat (IntKind.i64.wrap ((IntKind.i64.wrap (a.1 * v4.1)) + (IntKind.i64.wrap (Int.tdiv v3 (8 : Int)))))) (bits BinOp.or IntKind.u8 (List.getD v2.2 (Int.toNat (IntKind.i64.wrap ((IntKind.i64.wrap (a.1 * v4.1)) + (IntKind.i64.wrap (Int.tdiv v3 (8 : Int)))))) 0) ((128 : Int) / 2 ^ (Int.toNat (Int.tmod v3 (8 : Int)))))) : Int)))) then
    j2 (((IntKind.i64.wrap (v2.1 + (1 : Int))), (List.set (List.set v2.2 (Int.toNat (IntKind.i64.wrap ((IntKind.i64.wrap (a.1 * v4.1)) + (IntKind.i64.wrap (Int.tdiv v3 (8 : Int)))))) (bits BinOp.or IntKind.u8 (List.getD v2.2 (Int.toNat (IntKind.i64.wrap ((IntKind.i64.wrap (a.1 * v4.1)) + (IntKind.i64.wrap (Int.tdiv v3 (8 : Int)))))) 0) ((128 : Int) / 2 ^ (Int.toNat (Int.tmod v3 (8 : Int)))))) (Int.toNat (IntKind.i64.wrap ((IntKind.i64.wrap (v3 * v5.1)) + (IntKind.i64.wrap (Int.tdiv a.1 (8 : Int)))))) (bits BinOp.or IntKind.u8 (List.getD (List.set v2.2 (Int.toNat (IntKind.i64.wrap ((IntKind.i64.wrap (a.1 * v4.1)) + (IntKind.i64.wrap (Int.tdiv v3 (8 : Int)))))) (bits BinOp.or IntKind.u8 (List.getD v2.2 (Int.toNat (IntKind.i64.wrap ((IntKind.i64.wrap (a.1 * v4.1)) + (IntKind.i64.wrap (Int.tdiv v3 (8 : Int)))))) 0) ((128 : Int) / 2 ^ (Int.toNat (Int.tmod v3 (8 : Int)))))) (Int.toNat (IntKind.i64.wrap ((IntKind.i64.wrap (v3 * v5.1)) + (IntKind.i64.wrap (Int.tdiv a.1 (8 : Int)))))) 0) ((128 : Int) / 2 ^ (Int.toNat (Int.tmod a.1 (8 : Int))))))))
    else none
    else none
    else none
    else none
    else none
    else none
  else
  some ((((IntKind.i64.wrap ((IntKind.i64.wrap ((2 : Int) * a.1)) + (1 : Int))), ((IntKind.i64.wrap ((IntKind.i64.wrap ((2 : Int) * a.1)) + (1 : Int))), v2.2)), ((0 : Int), ())))
def strip_Mark_j1 (fu : Nat) (a : (Int) × (Unit)) (v0 : Bool) : Option (((Int) × ((Int) × (List (Int)))) × ((Int) × (Unit))) :=
  bif v0 then
    some ((((0 : Int), ((0 : Int), ([] : List (Int)))), ((3 : Int), ())))
  else
  bindO (bitmap_stride_r fu (((IntKind.i64.wrap ((IntKind.i64.wrap ((2 : Int) * a.1)) + (1 : Int))), ()))) fun v1 =>
  bif ((decide ((0 : Int) ≤ (IntKind.i64.wrap (v1.1 * (IntKind.i64.wrap ((IntKind.i64.wrap ((2 : Int) * a.1)) + (1 : Int))))))) && (decide (((1 : Int) * (IntKind.i64.wrap (v1.1 * (IntKind.i64.wrap ((IntKind.i64.wrap ((2 : Int) * a.1)) + (1 : Int)))))) ≤ (281474976710656 : Int)))) then
  loopF (strip_Mark_l2 fu a) fu (((0 : Int), (List.replicate (Int.toNat (IntKind.i64.wrap (v1.1 * (IntKind.i64.wrap ((IntKind.i64.wrap ((2 : Int) * a.1)) + (1 : Int)))))) (0 : Int))))
  else none
def strip_Mark_r (fu : Nat) (a : (Int) × (Unit)) : Option (((Int) × ((Int) × (List (Int)))) × ((Int) × (Unit))) :=
  joinF (strip_Mark_j1 fu a) fun j0 =>
  bif (decide (a.1 < (1 : Int))) then
    j0 (true)
  else
  j0 ((decide ((16 : Int) < a.1)))
def strip_Mark_an : An := (.n none .z (.n none (.n (some ⟨[2, 0], [0], [], [.reg 11 .bool], 0, []⟩) .z (.n none (.n none .z .z) .z)) (.n none (.ops [(6, (.n none (.n none .z (.n none .z .z)) .z))]) (.n none (.n none .z (.n none (.n (some ⟨[2, 4, 0, 22], [0, 3], [], [.reg 23 (.int .i64), .row 2 true (.int .u8) 5 0], 0, []⟩) (.n none .z (.n none .z (.n none (.n none (.n none .z (.n none (.ops [(2, (.n none (.dr [] []) .z))]) (.ops [(2, (.n none (.dr [] []) .z))]))) .z) .z))) .z) .z)) (.n none .z .z)))))
noncomputable def strip_Mark_dc : List (Nat × Ctr) := [(69, bitmap_stride_ctr)]
def strip_Mark_ctr : Ctr := ⟨(.pair (.int .i64) .unit), (.pair (.agg (.pair (.int .i64) (.pair (.int .i64) (.list (.int .u8))))) (.pair (.int .i64) .unit)), strip_Mark_r, 16⟩
theorem strip_Mark_ok : CtrOk Try.prog 16 strip_Mark_ctr := ctr_ok (l := strip_Mark_dc) (f := 12) (an := strip_Mark_an) ⟨bitmap_stride_ok, trivial⟩ fun fu x => by kernel_rfl
def strip_Layout_l3 (fu : Nat) (a : (Int) × ((Int) × ((Int) × (Unit)))) (v1 : (Int) × (List ((Int) × ((Int) × ((Int) × ((Int) × (Int))))))) (v2 : Int) (v3 : Int) (v5 : Int) (j1 : ((Int) × (List ((Int) × ((Int) × ((Int) × ((Int) × (Int))))))) → Option ((List ((Int) × ((Int) × ((Int) × ((Int) × (Int)))))) × ((Int) × (Unit)))) (j6 : ((Int) × (List ((Int) × ((Int) × ((Int) × ((Int) × (Int))))))) → Option ((List ((Int) × ((Int) × ((Int) × ((Int) × (Int)))))) × ((Int) × (Unit)))) (v6 : (Int) × (List ((Int) × ((Int) × ((Int) × ((Int) × (Int))))))) : Option ((List ((Int) × ((Int) × ((Int) × ((Int) × (Int)))))) × ((Int) × (Unit))) :=
  bif (decide (v6.1 < (IntKind.i64.wrap ((2 : Int) * a.1)))) then
    let v7 : Int := v6.1
    bif (decide ((((List.length v6.2 : Int) + (List.length (((IntKind.i64.wrap (v3 + (IntKind.i64.wrap (v7 * v5)))), (v5, ((Int.tmod v7 (2 : Int)), ((IntKind.i64.wrap (Int.tdiv v7 (2 : Int))), v2)))) :: ([] : List ((Int) × ((Int) × ((Int) × ((Int) × (Int))))))) : Int)) * (40 : Int)) ≤ (140737488355328 : Int))) then
    j6 (((IntKind.i64.wrap (v6.1 + (1 : Int))), (v6.2 ++ (((IntKind.i64.wrap (v3 + (IntKind.i64.wrap (v7 * v5)))), (v5, ((Int.tmod v7 (2 : Int)), ((IntKind.i64.wrap (Int.tdiv v7 (2 : Int))), v2)))) :: ([] : List ((Int) × ((Int) × ((Int) × ((Int) × (Int))))))))))
    else none
  else
  j1 (((IntKind.i64.wrap (v1.1 + (1 : Int))), v6.2))
def strip_Layout_l2 (fu : Nat) (a : (Int) × ((Int) × ((Int) × (Unit)))) (j1 : ((Int) × (List ((Int) × ((Int) × ((Int) × ((Int) × (Int))))))) → Option ((List ((Int) × ((Int) × ((Int) × ((Int) × (Int)))))) × ((Int) × (Unit)))) (v1 : (Int) × (List ((Int) × ((Int) × ((Int) × ((Int) × (Int))))))) : Option ((List ((Int) × ((Int) × ((Int) × ((Int) × (Int)))))) × ((Int) × (Unit))) :=
  bif (decide (v1.1 < a.2.1)) then
    let v2 : Int := v1.1
    bif (decide (a.2.1 ≠ (0 : Int))) then
    bif (decide (a.2.1 ≠ (0 : Int))) then
    let v3 : Int := (IntKind.i64.wrap (Int.tdiv (IntKind.i64.wrap (v2 * a.2.2.1)) a.2.1))
    let v4 : Int := (IntKind.i64.wrap (Int.tdiv (IntKind.i64.wrap ((IntKind.i64.wrap (v2 + (1 : Int))) * a.2.2.1)) a.2.1))
    bif (decide ((IntKind.i64.wrap ((2 : Int) * a.1)) ≠ (0 : Int))) then
    let v5 : Int := (IntKind.i64.wrap (Int.tdiv (IntKind.i64.wrap (v4 - v3)) (IntKind.i64.wrap ((2 : Int) * a.1))))
    bif (decide (v5 < (2 : Int))) then
      some ((([] : List ((Int) × ((Int) × ((Int) × ((Int) × (Int)))))), ((19 : Int), ())))
    else
    loopF (strip_Layout_l3 fu a v1 v2 v3 v5 j1) fu (((0 : Int), v1.2))
    else none
    else none
    else none
  else
  some ((v1.2, ((0 : Int), ())))
def strip_Layout_j1 (fu : Nat) (a : (Int) × ((Int) × ((Int) × (Unit)))) (v0 : Bool) : Option ((List ((Int) × ((Int) × ((Int) × ((Int) × (Int)))))) × ((Int) × (Unit))) :=
  bif v0 then
    some ((([] : List ((Int) × ((Int) × ((Int) × ((Int) × (Int)))))), ((3 : Int), ())))
  else
  loopF (strip_Layout_l2 fu a) fu (((0 : Int), ([] : List ((Int) × ((Int) × ((Int) × ((Int) × (Int))))))))
def strip_Layout_r (fu : Nat) (a : (Int) × ((Int) × ((Int) × (Unit)))) : Option ((List ((Int) × ((Int) × ((Int) × ((Int) × (Int)))))) × ((Int) × (Unit))) :=
  joinF (strip_Layout_j1 fu a) fun j0 =>
  bif (decide (a.1 < (1 : Int))) then
    j0 (true)
  else
  bif (decide ((8 : Int) < a.1)) then
    j0 (true)
  else
  bif (decide (a.2.1 < (1 : Int))) then
    j0 (true)
  else
  bif (decide ((16 : Int) < a.2.1)) then
    j0 (true)
  else
  bif (decide (a.2.2.1 < (1 : Int))) then
    j0 (true)
  else
  j0 ((decide ((1024 : Int) < a.2.2.1)))
def strip_Layout_an : An := (.n none .z (.n none (.n (some ⟨[2, 1, 0], [], [], [.reg 35 .bool], 0, []⟩) .z (.n none (.n none .z .z) .z)) (.n none .z (.n none (.n none .z (.n none (.n (some ⟨[2, 1, 0, 36], [], [(8, (.osl 0 0))], [.reg 37 (.int .i64), .row 0 true (.pair (.int .i64) (.pair (.int .i64) (.pair (.int .i64) (.pair (.int .i64) (.int .i64))))) 48 0], 1, [(8, (.pair (.int .i64) (.pair (.int .i64) (.pair (.int .i64) (.pair (.int .i64) (.int .i64))))), 48)]⟩) (.n none .z (.n none .z (.n none (.n none (.n none .z (.n none (.dr [] []) (.n none .z (.n none (.n none .z (.n none (.n none .z .z) .z)) (.n none .z (.n none (.n (some ⟨[37, 10, 12, 9, 60], [], [(8, (.osl 0 1))], [.reg 61 (.int .i64), .row 0 true (.pair (.int .i64) (.pair (.int .i64) (.pair (.int .i64) (.pair (.int .i64) (.int .i64))))) 48 1], 0, []⟩) (.n none .z (.n none .z (.n none (.n none (.n none .z .z) .z) .z))) .z) .z)))))) .z) .z))) .z) .z)) (.n none .z .z)))))
noncomputable def strip_Layout_dc : List (Nat × Ctr) := []
def strip_Layout_ctr : Ctr := ⟨(.pair (.int .i64) (.pair (.int .i64) (.pair (.int .i64) .unit))), (.pair (.list (.pair (.int .i64) (.pair (.int .i64) (.pair (.int .i64) (.pair (.int .i64) (.int .i64)))))) (.pair (.int .i64) .unit)), strip_Layout_r, 25⟩
theorem strip_Layout_ok : CtrOk Try.prog 25 strip_Layout_ctr := ctr_ok (l := strip_Layout_dc) (f := 12) (an := strip_Layout_an) trivial fun fu x => by kernel_rfl
def law_stripWorks_r (fu : Nat) (a : Unit) : Option ((Bool) × (Unit)) :=
  bindO (strip_Layout_r fu (((1 : Int), ((2 : Int), ((20 : Int), ()))))) fun v0 =>
  let v1 : List ((Int) × ((Int) × ((Int) × ((Int) × (Int))))) := v0.1
  let v2 : Int := v0.2.1
  bindO (strip_Mark_r fu (((1 : Int), ()))) fun v3 =>
  let v4 : Int := v3.2.1
  bindO (strip_Locate_r fu ((((5 : Int), ((4 : Int), ((0 : Int) :: ((16 : Int) :: ((56 : Int) :: ((16 : Int) :: ([] : List (Int)))))))), ((1 : Int), ())))) fun v5 =>
  let v6 : Int := v5.2.1
  bif (decide (v2 = (0 : Int))) then
    bif (decide ((List.length v1 : Int) = (4 : Int))) then
      bif (decide ((3 : Int) < (List.length v1 : Int))) then
      let v7 : (Int) × ((Int) × ((Int) × ((Int) × (Int)))) := (List.getD v1 (Int.toNat (3 : Int)) (0, (0, (0, (0, 0)))))
      bif ((decide (v7.1 = (15 : Int))) && ((decide (v7.2.1 = (5 : Int))) && ((decide (v7.2.2.1 = (1 : Int))) && ((decide (v7.2.2.2.1 = (0 : Int))) && (decide (v7.2.2.2.2 = (1 : Int))))))) then
        bif (decide (v4 = (0 : Int))) then
          bindO (R_SameBytes_r fu ((v3.1.2.2, (((64 : Int) :: ((224 : Int) :: ((64 : Int) :: ([] : List (Int))))), ())))) fun v8 =>
          bif v8.1 then
            bif (decide (v6 = (0 : Int))) then
              let v9 : Bool := ((decide (v5.1.1 = (3 : Int))) && (decide (v5.1.2 = (2 : Int))))
              some ((v9, ()))
            else
            some ((false, ()))
          else
          some ((false, ()))
        else
        some ((false, ()))
      else
      some ((false, ()))
      else none
    else
    some ((false, ()))
  else
  some ((false, ()))
def law_stripWorks_an : An := (.n none .z (.n none .z (.n none .z (.n none .z (.n none .z .z)))))
noncomputable def law_stripWorks_dc : List (Nat × Ctr) := [(15, strip_Locate_ctr), (16, strip_Mark_ctr), (25, strip_Layout_ctr), (59, R_SameBytes_ctr)]
def law_stripWorks_ctr : Ctr := ⟨.unit, (.pair .bool .unit), law_stripWorks_r, 14⟩
theorem law_stripWorks_ok : CtrOk Try.prog 14 law_stripWorks_ctr := ctr_ok (l := law_stripWorks_dc) (f := 12) (an := law_stripWorks_an) ⟨strip_Locate_ok, ⟨strip_Mark_ok, ⟨strip_Layout_ok, ⟨R_SameBytes_ok, trivial⟩⟩⟩⟩ fun fu x => by kernel_rfl
def law_StripReadings_j4 (fu : Nat) (j5 : ((Int) × (Int)) → Option ((Bool) × (Unit))) (v7 : (Int) × (Int)) : Option ((Bool) × (Unit)) :=
  let v8 : Int := (IntKind.i64.wrap (v7.1 + (1 : Int)))
  j5 ((v7.2, v8))
def law_StripReadings_j5 (fu : Nat) (v5 : (Int) × (Int)) (j7 : ((Int) × (Int)) → Option ((Bool) × (Unit))) (v11 : (Bool) × (Int)) : Option ((Bool) × (Unit)) :=
  bif v11.1 then
    j7 ((v5.2, (4 : Int)))
  else
  j7 ((v5.2, v11.2))
def law_StripReadings_j8 (fu : Nat) (j10 : ((Int) × (List ((Int) × ((Int) × ((Int) × (Int)))))) → Option ((Bool) × (Unit))) (v11 : (Int) × (List ((Int) × ((Int) × ((Int) × (Int)))))) : Option ((Bool) × (Unit)) :=
  let v12 : Int := (IntKind.i64.wrap (v11.1 + (1 : Int)))
  j10 ((v12, v11.2))
def law_StripReadings_j13 (fu : Nat) (j21 : ((Int) × (Int)) → Option ((Bool) × (Unit))) (v22 : (Int) × (Int)) : Option ((Bool) × (Unit)) :=
  let v23 : Int := (IntKind.i64.wrap (v22.1 + (1 : Int)))
  j21 ((v22.2, v23))
def law_StripReadings_l12 (fu : Nat) (a : (List ((Int) × ((Int) × ((Int) × ((Int) × (Int)))))) × ((List ((Int) × ((Int) × (List (Int))))) × (Unit))) (v12 : (Int) × ((Int) × ((Int) × ((Int) × (Int))))) (v13 : (Int) × ((Int) × ((Int) × ((Int) × (Int))))) (v15 : (Int) × (List (Int))) (v18 : (Int) × (Int)) (v19 : Int) (j18 : ((Int) × (Int)) → Option ((Bool) × (Unit))) (j21 : ((Int) × (Int)) → Option ((Bool) × (Unit))) (v21 : (Int) × (Int)) : Option ((Bool) × (Unit)) :=
  bif (decide (v21.2 < (IntKind.i64.wrap ((List.getD (v12.1 :: (v13.1 :: ([] : List (Int)))) (Int.toNat v15.1) 0) + (List.getD (v12.2.1 :: (v13.2.1 :: ([] : List (Int)))) (Int.toNat v15.1) 0))))) then
    joinF (law_StripReadings_j13 fu j21) fun j22 =>
    bif ((decide ((0 : Int) ≤ v12.2.2.2.1)) && (decide (v12.2.2.2.1 < (List.length a.2.1 : Int)))) then
    let v23 : (Int) × ((Int) × (List (Int))) := (List.getD a.2.1 (Int.toNat v12.2.2.2.1) (0, (0, [])))
    bindO (R_Bit_r fu (((v23.1, (v23.2.1, v23.2.2)), (v21.2, (v19, ()))))) fun v24 =>
    bif v24.1 then
      let v25 : Int := (IntKind.i64.wrap (v21.1 + (1 : Int)))
      j22 ((v21.2, v25))
    else
    j22 ((v21.2, v21.1))
    else none
  else
  j18 ((v21.1, (IntKind.i64.wrap (v18.2 + (1 : Int)))))
def law_StripReadings_l11 (fu : Nat) (a : (List ((Int) × ((Int) × ((Int) × ((Int) × (Int)))))) × ((List ((Int) × ((Int) × (List (Int))))) × (Unit))) (v12 : (Int) × ((Int) × ((Int) × ((Int) × (Int))))) (v13 : (Int) × ((Int) × ((Int) × ((Int) × (Int))))) (v15 : (Int) × (List (Int))) (v16 : Int) (v17 : (Int) × ((Int) × (List (Int)))) (j15 : ((Int) × (List (Int))) → Option ((Bool) × (Unit))) (j18 : ((Int) × (Int)) → Option ((Bool) × (Unit))) (v18 : (Int) × (Int)) : Option ((Bool) × (Unit)) :=
  bif (decide (v18.2 < v17.2.1)) then
    let v19 : Int := v18.2
    let v20 : Int := (List.getD (v12.1 :: (v13.1 :: ([] : List (Int)))) (Int.toNat v15.1) 0)
    loopF (law_StripReadings_l12 fu a v12 v13 v15 v18 v19 j18) fu ((v18.1, v20))
  else
  bif (decide ((0 : Int) < (List.length a.2.1 : Int))) then
  let v19 : (Int) × ((Int) × (List (Int))) := (List.getD a.2.1 (Int.toNat (0 : Int)) (0, (0, [])))
  bindO (R_Round_r fu (((IntKind.i64.wrap ((255 : Int) * v18.1)), ((IntKind.i64.wrap ((List.getD (v12.2.1 :: (v13.2.1 :: ([] : List (Int)))) (Int.toNat v15.1) 0) * v19.2.1)), ())))) fun v20 =>
  bif (((decide ((0 : Int) ≤ v16)) && (decide (v16 < (List.length v15.2 : Int)))) && (decide (v16 < (2 : Int)))) then
  j15 (((IntKind.i64.wrap (v15.1 + (1 : Int))), (List.set v15.2 (Int.toNat v16) v20.1)))
  else none
  else none
def law_StripReadings_l10 (fu : Nat) (a : (List ((Int) × ((Int) × ((Int) × ((Int) × (Int)))))) × ((List ((Int) × ((Int) × (List (Int))))) × (Unit))) (v10 : (Int) × (List ((Int) × ((Int) × ((Int) × (Int)))))) (v12 : (Int) × ((Int) × ((Int) × ((Int) × (Int))))) (v13 : (Int) × ((Int) × ((Int) × ((Int) × (Int))))) (j11 : ((Int) × (List ((Int) × ((Int) × ((Int) × (Int)))))) → Option ((Bool) × (Unit))) (j15 : ((Int) × (List (Int))) → Option ((Bool) × (Unit))) (v15 : (Int) × (List (Int))) : Option ((Bool) × (Unit)) :=
  bif (decide (v15.1 < (2 : Int))) then
    bif ((decide ((0 : Int) ≤ v15.1)) && (decide (v15.1 < (2 : Int)))) then
    let v16 : Int := v15.1
    bif (decide ((0 : Int) < (List.length a.2.1 : Int))) then
    let v17 : (Int) × ((Int) × (List (Int))) := (List.getD a.2.1 (Int.toNat (0 : Int)) (0, (0, [])))
    loopF (law_StripReadings_l11 fu a v12 v13 v15 v16 v17 j15) fu (((0 : Int), (0 : Int)))
    else none
    else none
  else
  bif (decide ((0 : Int) < (List.length v15.2 : Int))) then
  bif (decide ((1 : Int) < (List.length v15.2 : Int))) then
  bif (decide ((((List.length v10.2 : Int) + (List.length ((v12.2.2.2.1, (v12.2.2.2.2, ((List.getD v15.2 (Int.toNat (0 : Int)) 0), (List.getD v15.2 (Int.toNat (1 : Int)) 0)))) :: ([] : List ((Int) × ((Int) × ((Int) × (Int)))))) : Int)) * (32 : Int)) ≤ (140737488355328 : Int))) then
  j11 ((v10.1, (v10.2 ++ ((v12.2.2.2.1, (v12.2.2.2.2, ((List.getD v15.2 (Int.toNat (0 : Int)) 0), (List.getD v15.2 (Int.toNat (1 : Int)) 0)))) :: ([] : List ((Int) × ((Int) × ((Int) × (Int)))))))))
  else none
  else none
  else none
def law_StripReadings_j9 (fu : Nat) (a : (List ((Int) × ((Int) × ((Int) × ((Int) × (Int)))))) × ((List ((Int) × ((Int) × (List (Int))))) × (Unit))) (v10 : (Int) × (List ((Int) × ((Int) × ((Int) × (Int)))))) (v12 : (Int) × ((Int) × ((Int) × ((Int) × (Int))))) (v13 : (Int) × ((Int) × ((Int) × ((Int) × (Int))))) (j11 : ((Int) × (List ((Int) × ((Int) × ((Int) × (Int)))))) → Option ((Bool) × (Unit))) (v14 : Bool) : Option ((Bool) × (Unit)) :=
  bif v14 then
    j11 ((v10.1, v10.2))
  else
  loopF (law_StripReadings_l10 fu a v10 v12 v13 j11) fu (((0 : Int), ((0 : Int) :: ((0 : Int) :: ([] : List (Int))))))
def law_StripReadings_l15 (fu : Nat) (v2 : List ((Int) × ((Int) × ((Int) × (Int))))) (v10 : (Int) × (List ((Int) × ((Int) × ((Int) × (Int)))))) (j12 : (Int) → Option ((Bool) × (Unit))) (v12 : Int) : Option ((Bool) × (Unit)) :=
  bif (decide (v12 < (List.length v2 : Int))) then
    bif ((decide ((0 : Int) ≤ v12)) && (decide (v12 < (List.length v2 : Int)))) then
    let v13 : (Int) × ((Int) × ((Int) × (Int))) := (List.getD v2 (Int.toNat v12) (0, (0, (0, 0))))
    bif ((decide ((0 : Int) ≤ v12)) && (decide (v12 < (List.length v10.2 : Int)))) then
    bif (!((decide (v13.1 = (List.getD v10.2 (Int.toNat v12) (0, (0, (0, 0)))).1)) && ((decide (v13.2.1 = (List.getD v10.2 (Int.toNat v12) (0, (0, (0, 0)))).2.1)) && ((decide (v13.2.2.1 = (List.getD v10.2 (Int.toNat v12) (0, (0, (0, 0)))).2.2.1)) && (decide (v13.2.2.2 = (List.getD v10.2 (Int.toNat v12) (0, (0, (0, 0)))).2.2.2)))))) then
      some ((false, ()))
    else
    j12 ((IntKind.i64.wrap (v12 + (1 : Int))))
    else none
    else none
  else
  some ((true, ()))
def law_StripReadings_j14 (fu : Nat) (v2 : List ((Int) × ((Int) × ((Int) × (Int))))) (v10 : (Int) × (List ((Int) × ((Int) × ((Int) × (Int)))))) (v11 : Bool) : Option ((Bool) × (Unit)) :=
  bif v11 then
    some ((false, ()))
  else
  loopF (law_StripReadings_l15 fu v2 v10) fu ((0 : Int))
def law_StripReadings_l7 (fu : Nat) (a : (List ((Int) × ((Int) × ((Int) × ((Int) × (Int)))))) × ((List ((Int) × ((Int) × (List (Int))))) × (Unit))) (v2 : List ((Int) × ((Int) × ((Int) × (Int))))) (v3 : Int) (j10 : ((Int) × (List ((Int) × ((Int) × ((Int) × (Int)))))) → Option ((Bool) × (Unit))) (v10 : (Int) × (List ((Int) × ((Int) × ((Int) × (Int)))))) : Option ((Bool) × (Unit)) :=
  bif (decide (v10.1 < (List.length a.1 : Int))) then
    joinF (law_StripReadings_j8 fu j10) fun j11 =>
    bif ((decide ((0 : Int) ≤ (IntKind.i64.wrap (v10.1 - (1 : Int))))) && (decide ((IntKind.i64.wrap (v10.1 - (1 : Int))) < (List.length a.1 : Int)))) then
    let v12 : (Int) × ((Int) × ((Int) × ((Int) × (Int)))) := (List.getD a.1 (Int.toNat (IntKind.i64.wrap (v10.1 - (1 : Int)))) (0, (0, (0, (0, 0)))))
    bif ((decide ((0 : Int) ≤ v10.1)) && (decide (v10.1 < (List.length a.1 : Int)))) then
    let v13 : (Int) × ((Int) × ((Int) × ((Int) × (Int)))) := (List.getD a.1 (Int.toNat v10.1) (0, (0, (0, (0, 0)))))
    joinF (law_StripReadings_j9 fu a v10 v12 v13 j11) fun j14 =>
    bif (decide (v12.2.2.1 ≠ (0 : Int))) then
      j14 (true)
    else
    bif (decide (v13.2.2.1 ≠ (1 : Int))) then
      j14 (true)
    else
    bif (decide (v12.2.2.2.1 ≠ v13.2.2.2.1)) then
      j14 (true)
    else
    j14 ((decide (v12.2.2.2.2 ≠ v13.2.2.2.2)))
    else none
    else none
  else
  joinF (law_StripReadings_j14 fu v2 v10) fun j11 =>
  bif (decide (v3 ≠ (0 : Int))) then
    j11 (true)
  else
  j11 ((decide ((List.length v2 : Int) ≠ (List.length v10.2 : Int))))
def law_StripReadings_j6 (fu : Nat) (a : (List ((Int) × ((Int) × ((Int) × ((Int) × (Int)))))) × ((List ((Int) × ((Int) × (List (Int))))) × (Unit))) (v2 : List ((Int) × ((Int) × ((Int) × (Int))))) (v3 : Int) (v7 : Int) : Option ((Bool) × (Unit)) :=
  bif (decide (v7 ≠ (0 : Int))) then
    bindO (law_none_r fu (((decide ((List.length v2 : Int) = (0 : Int))), (v3, (v7, ()))))) fun v8 =>
    let v9 : Bool := v8.1
    some ((v9, ()))
  else
  bif (decide ((0 : Int) < (List.length a.2.1 : Int))) then
  let v8 : (Int) × ((Int) × (List (Int))) := (List.getD a.2.1 (Int.toNat (0 : Int)) (0, (0, [])))
  bindO (law_big_r fu (((v8.1, (v8.2.1, v8.2.2)), ()))) fun v9 =>
  bif v9.1 then
    some ((true, ()))
  else
  loopF (law_StripReadings_l7 fu a v2 v3) fu (((1 : Int), ([] : List ((Int) × ((Int) × ((Int) × (Int)))))))
  else none
def law_StripReadings_j3 (fu : Nat) (a : (List ((Int) × ((Int) × ((Int) × ((Int) × (Int)))))) × ((List ((Int) × ((Int) × (List (Int))))) × (Unit))) (v2 : List ((Int) × ((Int) × ((Int) × (Int))))) (v3 : Int) (v5 : (Int) × (Int)) (j5 : ((Int) × (Int)) → Option ((Bool) × (Unit))) (v6 : Bool) : Option ((Bool) × (Unit)) :=
  bif v6 then
    joinF (law_StripReadings_j4 fu j5) fun j7 =>
    bif ((decide ((0 : Int) ≤ v5.2)) && (decide (v5.2 < (List.length a.2.1 : Int)))) then
    let v8 : (Int) × ((Int) × (List (Int))) := (List.getD a.2.1 (Int.toNat v5.2) (0, (0, [])))
    bindO (R_BitsErr_r fu (((v8.1, (v8.2.1, v8.2.2)), ()))) fun v9 =>
    let v10 : Int := v9.1
    joinF (law_StripReadings_j5 fu v5 j7) fun j11 =>
    bif (decide (v10 = (0 : Int))) then
      bif ((decide ((0 : Int) ≤ v5.2)) && (decide (v5.2 < (List.length a.2.1 : Int)))) then
      let v12 : (Int) × ((Int) × (List (Int))) := (List.getD a.2.1 (Int.toNat v5.2) (0, (0, [])))
      bif (decide ((0 : Int) < (List.length a.2.1 : Int))) then
      let v13 : (Int) × ((Int) × (List (Int))) := (List.getD a.2.1 (Int.toNat (0 : Int)) (0, (0, [])))
      bif (decide (v12.1 ≠ v13.1)) then
        j11 ((true, v10))
      else
      bif ((decide ((0 : Int) ≤ v5.2)) && (decide (v5.2 < (List.length a.2.1 : Int)))) then
      let v14 : (Int) × ((Int) × (List (Int))) := (List.getD a.2.1 (Int.toNat v5.2) (0, (0, [])))
      bif (decide ((0 : Int) < (List.length a.2.1 : Int))) then
      let v15 : (Int) × ((Int) × (List (Int))) := (List.getD a.2.1 (Int.toNat (0 : Int)) (0, (0, [])))
      j11 (((decide (v14.2.1 ≠ v15.2.1)), v10))
      else none
      else none
      else none
      else none
    else
    j11 ((false, v10))
    else none
  else
  joinF (law_StripReadings_j6 fu a v2 v3) fun j7 =>
  bif (decide (v5.1 = (0 : Int))) then
    bif (decide ((0 : Int) < (List.length a.2.1 : Int))) then
    let v8 : (Int) × ((Int) × (List (Int))) := (List.getD a.2.1 (Int.toNat (0 : Int)) (0, (0, [])))
    bindO (R_PatchesErr_r fu ((a.1, ((List.length a.2.1 : Int), (v8.1, ()))))) fun v9 =>
    let v10 : Int := v9.1
    bif (decide ((0 : Int) < (List.length a.2.1 : Int))) then
    let v11 : (Int) × ((Int) × (List (Int))) := (List.getD a.2.1 (Int.toNat (0 : Int)) (0, (0, [])))
    bindO (strip_Check_r fu ((a.1, ((List.length a.2.1 : Int), (v11.1, ()))))) fun v12 =>
    bif (decide (v12.1 ≠ v10)) then
      some ((false, ()))
    else
    j7 (v10)
    else none
    else none
  else
  j7 (v5.1)
def law_StripReadings_l2 (fu : Nat) (a : (List ((Int) × ((Int) × ((Int) × ((Int) × (Int)))))) × ((List ((Int) × ((Int) × (List (Int))))) × (Unit))) (v2 : List ((Int) × ((Int) × ((Int) × (Int))))) (v3 : Int) (j5 : ((Int) × (Int)) → Option ((Bool) × (Unit))) (v5 : (Int) × (Int)) : Option ((Bool) × (Unit)) :=
  joinF (law_StripReadings_j3 fu a v2 v3 v5 j5) fun j6 =>
  bif (decide (v5.2 < (List.length a.2.1 : Int))) then
    j6 ((decide (v5.1 = (0 : Int))))
  else
  j6 (false)
def law_StripReadings_j1 (fu : Nat) (a : (List ((Int) × ((Int) × ((Int) × ((Int) × (Int)))))) × ((List ((Int) × ((Int) × (List (Int))))) × (Unit))) (v2 : List ((Int) × ((Int) × ((Int) × (Int))))) (v3 : Int) (v4 : Int) : Option ((Bool) × (Unit)) :=
  loopF (law_StripReadings_l2 fu a v2 v3) fu ((v4, (0 : Int)))
def law_StripReadings_r (fu : Nat) (a : (List ((Int) × ((Int) × ((Int) × ((Int) × (Int)))))) × ((List ((Int) × ((Int) × (List (Int))))) × (Unit))) : Option ((Bool) × (Unit)) :=
  bindO (law_stripWorks_r fu (())) fun v0 =>
  bif (!v0.1) then
    some ((false, ()))
  else
  bindO (strip_Read_r fu ((a.1, (a.2.1, ())))) fun v1 =>
  let v2 : List ((Int) × ((Int) × ((Int) × (Int)))) := v1.1
  let v3 : Int := v1.2.1
  joinF (law_StripReadings_j1 fu a v2 v3) fun j4 =>
  let v5 : Bool := (decide ((8 : Int) < (List.length a.2.1 : Int)))
  bif v5 then
    j4 ((2 : Int))
  else
  let v6 : Bool := (decide ((List.length a.2.1 : Int) = (0 : Int)))
  bif v6 then
    j4 ((1 : Int))
  else
  j4 ((0 : Int))
def law_StripReadings_an : An := (.n none .z (.n none (.n none .z (.n none (.n none .z .z) .z)) (.n none .z (.n none .z (.n (some ⟨[1, 0, 6, 5], [], [], [.reg 7 (.int .i64)], 0, []⟩) (.n none (.n none .z (.n none .z (.n none .z (.n none .z .z)))) .z) (.n none (.n none .z (.n none (.n (some ⟨[], [], [], [.reg 7 (.int .i64), .reg 8 (.int .i64)], 0, []⟩) (.n none (.n (some ⟨[8, 7], [], [], [.reg 43 .bool], 0, []⟩) .z .z) (.n (some ⟨[], [], [], [.reg 8 (.int .i64), .reg 7 (.int .i64)], 0, []⟩) (.n none (.n none .z (.n (some ⟨[8], [], [], [.reg 76 .bool, .reg 7 (.int .i64)], 0, []⟩) (.dr [] []) (.n none .z .z))) .z) .z)) .z) .z)) (.n (some ⟨[], [], [], [.reg 7 (.int .i64)], 0, []⟩) (.n none .z (.n none (.n none .z (.n none .z (.n none (.n none .z .z) .z))) .z)) (.n none (.n none .z (.n none (.n none .z .z) .z)) (.n none (.n none .z (.n none (.n none .z .z) .z)) (.n none .z (.n none (.n none .z (.n none (.n (some ⟨[], [], [(9, (.osl 0 0))], [.reg 10 (.int .i64), .row 0 true (.pair (.int .i64) (.pair (.int .i64) (.pair (.int .i64) (.int .i64)))) 63 0], 1, [(9, (.pair (.int .i64) (.pair (.int .i64) (.pair (.int .i64) (.int .i64)))), 63)]⟩) (.n none (.n none .z .z) (.n (some ⟨[], [], [(9, (.osl 0 1))], [.reg 10 (.int .i64), .row 0 true (.pair (.int .i64) (.pair (.int .i64) (.pair (.int .i64) (.int .i64)))) 63 1], 0, []⟩) (.n none (.n none (.dr [] []) (.n none (.n (some ⟨[12, 10, 11, 9], [0, 1, 2], [], [.reg 145 .bool], 0, []⟩) .z .z) (.n none .z (.n none (.n none .z (.n none (.n (some ⟨[10, 13, 11, 9, 148], [0, 1, 2], [], [.reg 149 (.int .i64), .row 3 true (.int .i64) 60 0], 0, []⟩) (.n none .z (.n none .z (.n none (.n none (.n none .z (.n none .z (.n none (.n none .z (.n none (.n (some ⟨[149, 15, 14, 156], [3, 4], [], [.reg 16 (.int .i64), .reg 157 (.int .i64)], 0, []⟩) (.n none .z (.n none .z (.n none (.n none (.n none .z (.n none .z (.n none (.n (some ⟨[157, 17], [], [], [.reg 16 (.int .i64), .reg 18 (.int .i64)], 0, []⟩) (.n none (.n none .z .z) (.n (some ⟨[], [], [], [.reg 18 (.int .i64), .reg 16 (.int .i64)], 0, []⟩) (.n none (.n none .z (.n none .z .z)) .z) .z)) .z) .z))) .z) .z))) .z) .z)) (.dr [] [])))) .z) .z))) .z) .z)) .z)))) .z) .z)) .z) .z)) (.n none (.n (some ⟨[9], [0], [], [.reg 215 .bool], 0, []⟩) .z (.n none (.n none .z .z) .z)) (.n none (.n none .z (.n none (.n (some ⟨[9, 217], [0], [], [.reg 218 (.int .i64)], 0, []⟩) (.n none .z (.n none .z (.n none (.n none (.n none .z (.n none (.dr [] []) (.n none (.n none .z .z) .z))) .z) .z))) .z) .z)) (.n none .z .z))))))))))))))
noncomputable def law_StripReadings_dc : List (Nat × Ctr) := [(14, law_stripWorks_ctr), (21, R_BitsErr_ctr), (22, law_none_ctr), (23, law_big_ctr), (24, R_Bit_ctr), (29, strip_Read_ctr), (30, R_PatchesErr_ctr), (31, strip_Check_ctr), (32, R_Round_ctr)]
def law_StripReadings_ctr : Ctr := ⟨(.pair (.list (.pair (.int .i64) (.pair (.int .i64) (.pair (.int .i64) (.pair (.int .i64) (.int .i64)))))) (.pair (.list (.pair (.int .i64) (.pair (.int .i64) (.list (.int .u8))))) .unit)), (.pair .bool .unit), law_StripReadings_r, 5⟩
theorem law_StripReadings_ok : CtrOk Try.prog 5 law_StripReadings_ctr := ctr_ok (l := law_StripReadings_dc) (f := 12) (an := law_StripReadings_an) ⟨law_stripWorks_ok, ⟨R_BitsErr_ok, ⟨law_none_ok, ⟨law_big_ok, ⟨R_Bit_ok, ⟨strip_Read_ok, ⟨R_PatchesErr_ok, ⟨strip_Check_ok, ⟨R_Round_ok, trivial⟩⟩⟩⟩⟩⟩⟩⟩⟩ fun fu x => by kernel_rfl
end Go.Proofs.Ytnbmldnahacnlaa
/- Plain facts for residual programs. No program in sight. -/
namespace Go.Proofs.Ytnbmldnahacnlaa
open Go Go.RowKit
theorem loopF_spec {α β : Type} {f : (α → Option β) → α → Option β} (μ : α → Nat) (I : α → Prop) (S : α → Option β) (h : ∀ j x, I x → (∀ x', I x' → μ x' < μ x → j x' = S x') → f j x = S x) : ∀ (fu : Nat) (x : α), I x → μ x < fu → loopF f fu x = S x
  | 0, _, _, h0 => absurd h0 (Nat.not_lt_zero _)
  | fu + 1, x, hI, hm => by
    rw [loopF]
    exact h _ x hI fun x' h1 h2 => loopF_spec μ I S h fu x' h1 (by omega)
theorem bif_pos {α : Type} {p : Prop} [Decidable p] {a b : α} (h : p) : (bif decide p then a else b) = a := by rw [decide_eq_true h]; rfl
theorem bif_neg {α : Type} {p : Prop} [Decidable p] {a b : α} (h : ¬ p) : (bif decide p then a else b) = b := by rw [decide_eq_false h]; rfl
theorem bif_and {α : Type} {p q : Prop} [Decidable p] [Decidable q] {a b : α} (h : p) (k : q) : (bif decide p && decide q then a else b) = a := by rw [decide_eq_true h, decide_eq_true k]; rfl
theorem joinF_eq {α β : Type} (J : α → Option β) (b : (α → Option β) → Option β) : joinF J b = b J := rfl
theorem bindO_some {α β : Type} (x : α) (k : α → Option β) : bindO (some x) k = k x := rfl
/-- the fuel -/
def FU : Nat := 18446744073709551616
/-! ### What is left of a loop -/
def allFrom (p : Nat → Bool) (n i : Nat) : Bool := (List.range' i (n - i)).all p
theorem allFrom_lt {p : Nat → Bool} {n i : Nat} (h : i < n) : allFrom p n i = (p i && allFrom p n (i + 1)) := by
  unfold allFrom
  rw [show n - i = (n - (i + 1)) + 1 by omega, List.range'_succ, List.all_cons]
theorem allFrom_ge {p : Nat → Bool} {n i : Nat} (h : n ≤ i) : allFrom p n i = true := by
  unfold allFrom
  rw [show n - i = 0 by omega]; rfl
theorem allFrom_zero (p : Nat → Bool) (n : Nat) : allFrom p n 0 = (List.range n).all p := by
  unfold allFrom
  rw [Nat.sub_zero, List.range_eq_range']
end Go.Proofs.Ytnbmldnahacnlaa
/- Plain facts on whole numbers: rounding, floor division. No program in sight. -/
namespace Go.Proofs.Ytnbmldnahacnlaa

/-- n/d rounded half up -/
def rnd (n d : Int) : Int := (2 * n + d) / (2 * d)

theorem div_uniq {a b q r : Int} (hb : 0 < b) (h : r + b * q = a) (h0 : 0 ≤ r) (h1 : r < b) : a / b = q :=
  ((Int.ediv_emod_unique hb).2 ⟨h, h0, h1⟩).1

theorem tdiv_neg {a b : Int} (hb : 0 < b) (h : a.tmod b < 0) : a.tdiv b - 1 = a / b := by
  have h1 := Int.tmod_add_mul_tdiv a b
  have h2 : -b < a.tmod b := by
    have := Int.lt_tmod_of_pos a hb
    omega
  refine (div_uniq (r := a.tmod b + b) hb ?_ (by omega) (by omega)).symm
  rw [Int.mul_sub]; omega

theorem tdiv_pos {a b : Int} (hb : 0 < b) (h : 0 ≤ a.tmod b) : a.tdiv b = a / b := by
  have h1 := Int.tmod_add_mul_tdiv a b
  have h2 : a.tmod b < b := Int.tmod_lt_of_pos a hb
  exact (div_uniq (r := a.tmod b) hb (by omega) (by omega) (by omega)).symm

theorem tdiv_over {a b : Int} (hb : 0 < b) (h : a < a.tdiv b * b) : a.tdiv b - 1 = a / b := by
  have h1 := Int.tmod_add_mul_tdiv a b
  refine tdiv_neg hb ?_
  rw [Int.mul_comm] at h1; omega

theorem tdiv_under {a b : Int} (hb : 0 < b) (h : a.tdiv b * b ≤ a) : a.tdiv b = a / b := by
  have h1 := Int.tmod_add_mul_tdiv a b
  refine tdiv_pos hb ?_
  rw [Int.mul_comm] at h1; omega

/-- the reference's way of rounding -/
theorem rnd_up {n d : Int} (hd : 0 < d) (h : d ≤ 2 * (n - n / d * d)) : n / d + 1 = rnd n d := by
  have h1 := Int.emod_add_mul_ediv n d
  have h2 := Int.emod_lt_of_pos n hd
  have h3 := Int.emod_nonneg n (by omega : d ≠ 0)
  rw [Int.mul_comm] at h1
  refine (div_uniq (r := 2 * (n % d) - d) (by omega) ?_ (by omega) (by omega)).symm
  have e : 2 * d * (n / d + 1) = 2 * (n / d * d) + 2 * d := by rw [Int.mul_add, Int.mul_assoc, Int.mul_comm d]; omega
  omega

theorem rnd_down {n d : Int} (hd : 0 < d) (h : 2 * (n - n / d * d) < d) : n / d = rnd n d := by
  have h1 := Int.emod_add_mul_ediv n d
  have h2 := Int.emod_lt_of_pos n hd
  have h3 := Int.emod_nonneg n (by omega : d ≠ 0)
  rw [Int.mul_comm] at h1
  refine (div_uniq (r := 2 * (n % d) + d) (by omega) ?_ (by omega) (by omega)).symm
  have e : 2 * d * (n / d) = 2 * (n / d * d) := by rw [Int.mul_assoc, Int.mul_comm d]
  omega

theorem tdiv_abs {n m : Int} (d : Int) (h1 : -m ≤ n) (h2 : n ≤ m) : -m ≤ n.tdiv d ∧ n.tdiv d ≤ m := by
  have := Int.natAbs_tdiv_le_natAbs n d
  omega

end Go.Proofs.Ytnbmldnahacnlaa
/- Rewriting of residual programs by facts of arithmetic. No program in sight. -/
namespace Go.Proofs.Ytnbmldnahacnlaa
open Go Go.RowKit
theorem s_pos {p : Prop} [Decidable p] (h : p) : decide p = true := decide_eq_true h
theorem s_neg {p : Prop} [Decidable p] (h : ¬ p) : decide p = false := decide_eq_false h
theorem s_wr {x : Int} (h0 : -9223372036854775808 ≤ x) (h1 : x ≤ 9223372036854775807) : IntKind.i64.wrap x = x := wr64 h0 h1
theorem s_td {a b : Int} (h : 0 ≤ a) : Int.tdiv a b = a / b := Int.tdiv_eq_ediv_of_nonneg h
theorem s_tm {a b : Int} (h : 0 ≤ a) : Int.tmod a b = a % b := Int.tmod_eq_emod_of_nonneg h
/-- the first error of n steps from step i on -/
def firstE (E : Nat → Int) : Nat → Nat → Int
  | 0, _ => 0
  | n + 1, i => if E i = 0 then firstE E n (i + 1) else E i
theorem firstE_step {E : Nat → Int} {i m : Nat} (hi : i < m) : firstE E (m - i) i = if E i = 0 then firstE E (m - (i + 1)) (i + 1) else E i := by
  rw [show m - i = (m - (i + 1)) + 1 by omega, firstE]
theorem firstE_ok {E : Nat → Int} : ∀ (n i : Nat), firstE E n i = 0 → ∀ k, i ≤ k → k < i + n → E k = 0
  | 0, _, _, _, _, _ => by omega
  | n + 1, i, h0, k, h1, h2 => by
    rw [firstE] at h0
    by_cases c : E i = 0
    · rw [if_pos c] at h0
      by_cases e : k = i
      · subst e; exact c
      · exact firstE_ok n (i + 1) h0 k (by omega) (by omega)
    · rw [if_neg c] at h0
      exact absurd h0 c
section
variable {α : Type} {n : Nat} {G G' : Int → α}
end
end Go.Proofs.Ytnbmldnahacnlaa
/- Numbers: what the small functions compute. -/
namespace Go.Proofs.Ytnbmldnahacnlaa
open Go Go.RowKit
set_option linter.unusedSimpArgs false
set_option linter.unusedSectionVars false
set_option linter.unusedVariables false

theorem floor_s (fu : Nat) {n d : Int} (hd : 0 < d) (h1 : d ≤ 9223372036854775807) (h2 : -9223372036854775808 ≤ n) (h3 : n ≤ 9223372036854775807) : R_Floor_r fu (n, (d, ())) = some (n / d, ()) := by
  unfold R_Floor_r
  simp only [joinF_eq]
  rw [bif_pos (by omega)]
  have hm := Int.tmod_add_mul_tdiv n d
  have hm1 := Int.natAbs_tmod n d
  have h4 : n.tdiv d * d = n - n.tmod d := by rw [Int.mul_comm]; omega
  have h5 : (n.tmod d).natAbs ≤ n.natAbs := by rw [hm1]; exact Nat.mod_le _ _
  have hb : -9223372036854775808 ≤ n.tdiv d * d ∧ n.tdiv d * d ≤ 9223372036854775807 := by
    rcases Int.le_total 0 n with hn | hn
    · have := Int.tmod_nonneg d hn; omega
    · have := Int.tmod_nonneg (a := -n) d (by omega)
      rw [Int.neg_tmod] at this
      omega
  obtain ⟨b1, b2⟩ := hb
  have hq := Int.natAbs_tdiv n d
  have hq' : (n.tdiv d).natAbs ≤ n.natAbs := by rw [hq]; exact Nat.div_le_self _ _
  have hq3 : n.tdiv d ≤ 9223372036854775807 := by
    rcases Int.le_total 0 n with hn | hn
    · omega
    · have := Int.tdiv_nonneg (a := -n) (b := d) (by omega) (by omega)
      rw [Int.neg_tdiv] at this
      omega
  rw [wr64 (x := n.tdiv d) (by omega) hq3, wr64 (x := n.tdiv d * d) b1 b2]
  by_cases hc : n < n.tdiv d * d
  · have hlow : -9223372036854775807 ≤ n.tdiv d := by
      rcases Int.lt_or_le d 2 with g | g
      · obtain rfl : d = 1 := by omega
        rw [Int.tdiv_one] at hc
        omega
      · have h6 : (n.tdiv d).natAbs ≤ n.natAbs / 2 := by
          rw [hq]
          exact Nat.div_le_div_left (by omega) (by omega)
        omega
    rw [bif_pos hc, wr64 (x := n.tdiv d - 1) (by omega) (by omega), tdiv_over hd hc]; rfl
  · rw [bif_neg hc, tdiv_under hd (by omega)]; rfl
theorem floor_mul' {n d : Int} (hd : 0 < d) : n / d * d ≤ n ∧ n < n / d * d + d := by
  have h1 := Int.mul_ediv_add_emod n d
  have h2 := Int.emod_nonneg n (by omega : d ≠ 0)
  have h3 := Int.emod_lt_of_pos n hd
  rw [Int.mul_comm] at h1
  omega
theorem round_s (fu : Nat) {n d : Int} (hd : 0 < d) (h1 : d ≤ 1000000000000000) (h2 : -1000000000000000000 ≤ n) (h3 : n ≤ 1000000000000000000) : R_Round_r fu (n, (d, ())) = some (rnd n d, ()) := by
  unfold R_Round_r
  simp only
  rw [floor_s fu hd (by omega) (by omega) (by omega)]
  simp only [bindO_some, joinF_eq]
  obtain ⟨b1, b2⟩ := floor_mul' (n := n) hd
  have hq : -1000000000000000001 ≤ n / d ∧ n / d ≤ 1000000000000000000 := by
    constructor
    · rcases Int.lt_or_le (n / d) 0 with g | g
      · have : n / d * d ≤ n / d * 1 := Int.mul_le_mul_of_nonpos_left (by omega) (by omega)
        have h4 : n / d * d - n / d * 1 ≤ 0 := by omega
        have h5 : (n / d + 1) * d ≤ (n / d + 1) * 1 := Int.mul_le_mul_of_nonpos_left (by omega) (by omega)
        rw [Int.add_mul] at h5
        omega
      · omega
    · rcases Int.lt_or_le (n / d) 1 with g | g
      · omega
      · have : n / d * 1 ≤ n / d * d := Int.mul_le_mul_of_nonneg_left (by omega) (by omega)
        omega
  rw [wr64 (x := n / d * d) (by omega) (by omega), wr64 (x := n - n / d * d) (by omega) (by omega), wr64 (x := 2 * (n - n / d * d)) (by omega) (by omega)]
  by_cases hc : d ≤ 2 * (n - n / d * d)
  · rw [bif_pos hc, wr64 (x := n / d + 1) (by omega) (by omega), rnd_up hd hc]; rfl
  · rw [bif_neg hc, rnd_down hd (by omega)]; rfl
theorem nearest_s (fu : Nat) {n d : Int} (hd : 0 < d) (h1 : d ≤ 1000000000000000) (h2 : -1000000000000000000 ≤ n) (h3 : n ≤ 1000000000000000000) : curve_Nearest_r fu (n, (d, ())) = some (rnd n d, ()) := by
  obtain ⟨g1, g2⟩ := tdiv_abs (n := 2 * n + d) (m := 2002000000000000000) (2 * d) (by omega) (by omega)
  unfold curve_Nearest_r rnd
  simp only [joinF_eq]
  rw [wr64 (x := 2 * n) (by omega) (by omega), wr64 (x := 2 * n + d) (by omega) (by omega), wr64 (x := 2 * d) (by omega) (by omega), bif_pos (by omega), bif_pos (by omega), wr64 (x := (2 * n + d).tdiv (2 * d)) (by omega) (by omega)]
  by_cases hc : (2 * n + d).tmod (2 * d) < 0
  · rw [bif_pos hc, wr64 (x := (2 * n + d).tdiv (2 * d) - 1) (by omega) (by omega), tdiv_neg (by omega) hc]; rfl
  · rw [bif_neg hc, tdiv_pos (by omega) (by omega)]; rfl
end Go.Proofs.Ytnbmldnahacnlaa
/- Loops by their first error, by what is found, by a postcondition. No program in sight. -/
namespace Go.Proofs.Ytnbmldnahacnlaa
open Go Go.RowKit
set_option linter.unusedSimpArgs false
set_option linter.unusedSectionVars false
set_option linter.unusedVariables false
/-- a loop by an invariant and a postcondition of its result -/
theorem postLoop {X β : Type} {f : (X → Option β) → X → Option β} (μ : X → Nat) (I : X → Prop) (Q : Option β → Prop)
    (h : ∀ j x, I x → (∃ x', I x' ∧ μ x' < μ x ∧ f j x = j x') ∨ Q (f j x)) : ∀ (fu : Nat) (x : X), I x → μ x < fu → Q (loopF f fu x)
  | 0, _, _, h0 => absurd h0 (Nat.not_lt_zero _)
  | fu + 1, x, hI, hm => by
    rw [loopF]
    rcases h (loopF f fu) x hI with ⟨x', h1, h2, h3⟩ | h3
    · rw [h3]
      exact postLoop μ I Q h fu x' h1 (by omega)
    · exact h3
section
variable {β : Type} {f : (Int → Option β) → Int → Option β} {n fu : Nat} (hn : n < fu)
include hn
theorem errLoop {E : Nat → Int} {out : Int → Option β} {fin : Option β}
    (step : ∀ j (i : Nat), i < n → f j i = if E i = 0 then j ((i : Int) + 1) else out (E i)) (last : ∀ j, f j n = fin) :
    loopF f fu 0 = if firstE E n 0 = 0 then fin else out (firstE E n 0) := by
  refine loopF_spec (f := f) (fun i : Int => ((n : Int) - i).toNat) (fun i => 0 ≤ i ∧ i ≤ n) (fun i => if firstE E (n - i.toNat) i.toNat = 0 then fin else out (firstE E (n - i.toNat) i.toNat)) ?_ fu 0 ⟨by omega, by omega⟩ (by omega)
  rintro j i ⟨k0, k1⟩ ih
  obtain ⟨i, rfl⟩ := Int.eq_ofNat_of_zero_le k0
  by_cases hi : i < n
  · rw [step j i hi]
    have ih' := ih ((i : Int) + 1) ⟨by omega, by omega⟩ (by omega)
    rw [show ((i : Int) + 1).toNat = i + 1 by omega] at ih'
    rw [Int.toNat_natCast, firstE_step hi]
    by_cases e : E i = 0
    · simp only [if_pos e]; exact ih'
    · simp only [if_neg e]
  · have e : i = n := by omega
    subst e
    rw [last, Int.toNat_natCast, Nat.sub_self]; rfl
end
theorem firstE_at {E : Nat → Int} {i : Nat} (hE : E i ≠ 0) : ∀ (m i0 : Nat), i0 ≤ i → i < i0 + m → (∀ k, i0 ≤ k → k < i → E k = 0) → firstE E m i0 = E i
  | 0, i0, h1, h2, _ => by omega
  | m + 1, i0, h1, h2, h => by
    rw [firstE]
    by_cases e : i0 = i
    · subst e; rw [if_neg hE]
    · rw [if_pos (h i0 (Nat.le_refl _) (by omega))]
      exact firstE_at hE m (i0 + 1) (by omega) (by omega) fun k g1 g2 => h k (by omega) g2
theorem firstE_all {E : Nat → Int} : ∀ (m i0 : Nat), (∀ k, i0 ≤ k → k < i0 + m → E k = 0) → firstE E m i0 = 0
  | 0, _, _ => rfl
  | m + 1, i0, h => by
    rw [firstE, if_pos (h i0 (Nat.le_refl _) (by omega))]
    exact firstE_all m (i0 + 1) fun k g1 g2 => h k (by omega) (by omega)
/-- a loop through the states st 0, st 1, .. that is left at the first error -/
theorem errGen {X β : Type} {f : (X → Option β) → X → Option β} {n : Nat} {st : Nat → X} {E : Nat → Int} {out : Int → Option β} {fin : Option β}
    (step : ∀ j (i : Nat), i < n → (∀ k, k < i → E k = 0) → f j (st i) = if E i = 0 then j (st (i + 1)) else out (E i)) (last : (∀ k, k < n → E k = 0) → ∀ j, f j (st n) = fin) :
    ∀ (fu i : Nat), i ≤ n → n - i < fu → (∀ k, k < i → E k = 0) → loopF f fu (st i) = if firstE E (n - i) i = 0 then fin else out (firstE E (n - i) i)
  | 0, i, _, h, _ => by omega
  | fu + 1, i, h0, h1, hE => by
    rw [loopF]
    by_cases hi : i < n
    · rw [step _ i hi hE, firstE_step hi]
      by_cases e : E i = 0
      · rw [if_pos e]
        simp only [if_pos e]
        exact errGen step last fu (i + 1) (by omega) (by omega) fun k hk => by
          by_cases q : k = i
          · rw [q]; exact e
          · exact hE k (by omega)
      · rw [if_neg e]
        simp only [if_neg e]
    · have e : i = n := by omega
      subst e
      rw [last hE, Nat.sub_self]; rfl
end Go.Proofs.Ytnbmldnahacnlaa
/- Bits of bytes, bitmaps as lists of bytes. No program in sight. -/
namespace Go.Proofs.Ytnbmldnahacnlaa
open Go Go.RowKit

/-- the pixel j of a byte, from the left -/
def bitAt (v : Int) (j : Nat) : Bool := v / 2 ^ (7 - j) % 2 == 1
theorem fin_byte {p : Int → Prop} (h : ∀ v : Fin 256, p (v.val : Int)) {v : Int} (h0 : 0 ≤ v) (h1 : v ≤ 255) : p v := by
  have := h ⟨v.toNat, by omega⟩
  rwa [show ((⟨v.toNat, by omega⟩ : Fin 256).val : Int) = v from Int.toNat_of_nonneg h0] at this
theorem shl_bit {v : Int} (h0 : 0 ≤ v) (h1 : v ≤ 255) {k : Nat} (hk : k < 8) : bits .and .u8 (IntKind.wrap .u8 (v * 2 ^ k)) 128 = (if bitAt v k = true then 128 else 0) :=
  fin_byte (p := fun v => ∀ k : Fin 8, bits .and .u8 (IntKind.wrap .u8 (v * 2 ^ k.val)) 128 = (if bitAt v k.val = true then 128 else 0)) (by decide +kernel) h0 h1 ⟨k, hk⟩
theorem and_mask {v : Int} (h0 : 0 ≤ v) (h1 : v ≤ 255) {k : Nat} (hk : k < 8) : bits .and .u8 v (128 / 2 ^ k) = (if bitAt v k = true then 128 / 2 ^ k else 0) :=
  fin_byte (p := fun v => ∀ k : Fin 8, bits .and .u8 v (128 / 2 ^ k.val) = (if bitAt v k.val = true then 128 / 2 ^ k.val else 0)) (by decide +kernel) h0 h1 ⟨k, hk⟩
theorem mask_ne {k : Nat} (hk : k < 8) : (128 : Int) / 2 ^ k ≠ 0 := (show ∀ k : Fin 8, (128 : Int) / 2 ^ k.val ≠ 0 by decide) ⟨k, hk⟩
/-- the lowest u bits of a byte -/
def lowOk (v : Int) (u : Nat) : Bool := v % 2 ^ u == 0
theorem and_low {v : Int} (h0 : 0 ≤ v) (h1 : v ≤ 255) {u : Nat} (hu : u < 8) : bits .and .u8 v (2 ^ u - 1) = v % 2 ^ u :=
  fin_byte (p := fun v => ∀ u : Fin 8, bits .and .u8 v (2 ^ u.val - 1) = v % 2 ^ u.val) (by decide +kernel) h0 h1 ⟨u, hu⟩
theorem low_bits {v : Int} (h0 : 0 ≤ v) (h1 : v ≤ 255) {u : Nat} (hu : u < 8) : lowOk v u = true ↔ ∀ k, k < 8 → 8 - u ≤ k → bitAt v k = false := by
  have h := fin_byte (p := fun v => ∀ u : Fin 8, lowOk v u.val = true ↔ ∀ k : Fin 8, 8 - u.val ≤ k.val → bitAt v k.val = false) (by decide +kernel) h0 h1 ⟨u, hu⟩
  exact h.trans ⟨fun g k hk hu => g ⟨k, hk⟩ hu, fun g k hu => g k.val k.isLt hu⟩
theorem wrap_pow {u : Nat} (hu : u < 8) : IntKind.wrap .u8 (IntKind.wrap .u8 (1 * 2 ^ u) - 1) = 2 ^ u - 1 := (show ∀ u : Fin 8, IntKind.wrap .u8 (IntKind.wrap .u8 (1 * 2 ^ u.val) - 1) = 2 ^ u.val - 1 by decide +kernel) ⟨u, hu⟩
/-- bytes -/
def Bytes (ds : List Int) : Prop := ∀ d ∈ ds, 0 ≤ d ∧ d ≤ 255
/-- a row's bytes -/
def strideN (w : Nat) : Nat := (w + 7) / 8
def tailOk (w h : Nat) (ds : List Int) : Bool := (List.range h).all fun y => lowOk (ds.getD (y * strideN w + strideN w - 1) 0) (8 * strideN w - w)
def bitsE (w h : Int) (ds : List Int) : Int := if 1 ≤ w ∧ w ≤ 1024 ∧ 1 ≤ h ∧ h ≤ 1024 then (if ds.length = strideN w.toNat * h.toNat then (if tailOk w.toNat h.toNat ds = true then 0 else 4) else 4) else 3
/-- no pixel beyond a row's end, byte by byte -/
def pixOk (w n i : Nat) (d : Int) (k : Nat) : Bool := !(decide (w ≤ i % n * 8 + k) && bitAt d k)
def byteOk (w n i : Nat) (d : Int) : Bool := (List.range 8).all (pixOk w n i d)
def rowsOk (w n : Nat) (ds : List Int) (m : Nat) : Bool := (List.range m).all fun i => byteOk w n i (ds.getD i 0)
theorem rows_tail {w h : Nat} {ds : List Int} (hb : Bytes ds) (hw : 1 ≤ w) (hl : ds.length = strideN w * h) : rowsOk w (strideN w) ds ds.length = tailOk w h ds := by
  have hn : 1 ≤ strideN w ∧ w ≤ 8 * strideN w ∧ 8 * strideN w ≤ w + 7 := by unfold strideN; omega
  unfold tailOk
  generalize strideN w = n at *
  obtain ⟨n0, n2, n3⟩ := hn
  have hg : ∀ i, i < ds.length → 0 ≤ ds.getD i 0 ∧ ds.getD i 0 ≤ 255 := fun i hi => by
    rw [List.getD_eq_getElem?_getD, List.getElem?_eq_getElem hi]
    exact hb _ (List.getElem_mem hi)
  rw [Bool.eq_iff_iff]
  constructor
  · intro ha
    refine List.all_eq_true.2 fun y hy => ?_
    have hy := List.mem_range.1 hy
    have h1 : (y + 1) * n ≤ h * n := Nat.mul_le_mul_right n hy
    rw [Nat.add_mul, Nat.one_mul, Nat.mul_comm h n] at h1
    have hi : y * n + n - 1 < ds.length := by omega
    have hmod : (y * n + n - 1) % n = n - 1 := by
      rw [show y * n + n - 1 = (n - 1) + n * y by rw [Nat.mul_comm y n]; omega, Nat.add_mul_mod_self_left, Nat.mod_eq_of_lt (by omega)]
    have hrow := List.all_eq_true.1 ha (y * n + n - 1) (List.mem_range.2 hi)
    obtain ⟨g0, g1⟩ := hg _ hi
    refine (low_bits g0 g1 (u := 8 * n - w) (by omega)).2 fun k hk hu => ?_
    have := List.all_eq_true.1 hrow k (List.mem_range.2 hk)
    unfold pixOk at this
    rw [hmod, show decide (w ≤ (n - 1) * 8 + k) = true by simp; omega] at this
    simpa using this
  · intro ha
    refine List.all_eq_true.2 fun i hi => List.all_eq_true.2 fun k hk => ?_
    have hi := List.mem_range.1 hi
    have hk := List.mem_range.1 hk
    unfold pixOk
    by_cases hw : w ≤ i % n * 8 + k
    · have hm : i % n < n := Nat.mod_lt _ (by omega)
      have hmod : i % n = n - 1 := by omega
      have hdm := Nat.div_add_mod i n
      have hy : i / n < h := by
        apply Nat.div_lt_of_lt_mul
        omega
      have hrow := List.all_eq_true.1 ha (i / n) (List.mem_range.2 hy)
      have he : i / n * n + n - 1 = i := by rw [Nat.mul_comm]; omega
      rw [he] at hrow
      obtain ⟨g0, g1⟩ := hg _ hi
      have := (low_bits g0 g1 (u := 8 * n - w) (by omega)).1 hrow k hk (by omega)
      rw [this]
      simp
    · rw [show decide (w ≤ i % n * 8 + k) = false by simp; omega]
      rfl
end Go.Proofs.Ytnbmldnahacnlaa
/- Strips: what the small functions compute. -/
namespace Go.Proofs.Ytnbmldnahacnlaa
open Go Go.RowKit

theorem within_r (fu : Nat) (x lo hi : Int) : R_Within_r fu (x, (lo, (hi, ()))) = some (decide (lo ≤ x) && decide (x ≤ hi), ()) := by
  unfold R_Within_r
  by_cases h : lo ≤ x
  · rw [bif_pos h, decide_eq_true h]; rfl
  · rw [bif_neg h, decide_eq_false h]; rfl
theorem none_r (fu : Nat) (z : Bool) (g w : Int) : law_none_r fu (z, (g, (w, ()))) = some (z && decide (g = w), ()) := by
  unfold law_none_r
  cases z <;> rfl
theorem big_r (fu : Nat) (w h : Int) (ds : List Int) : law_big_r fu ((w, (h, ds)), ()) = some (decide (48 < w) || decide (24 < h), ()) := by
  unfold law_big_r
  by_cases g : 48 < w
  · rw [bif_pos g, decide_eq_true g]; rfl
  · rw [bif_neg g, decide_eq_false g]; rfl
/-- a row's bytes -/
def strd (w : Int) : Int := (w + 7) / 8
theorem stride_r (fu : Nat) {w : Int} (h0 : 0 ≤ w) (h1 : w ≤ 1000000) : bitmap_stride_r fu (w, ()) = some (strd w, ()) := by
  unfold bitmap_stride_r strd
  simp only
  rw [wr64 (x := w + 7) (by omega) (by omega), Int.tdiv_eq_ediv_of_nonneg (by omega), wr64 (x := (w + 7) / 8) (by omega) (by omega)]
theorem strd_N {w : Int} (h0 : 0 ≤ w) : strd w = (strideN w.toNat : Int) := by
  unfold strd strideN
  omega
/-- the pixel (x, y) -/
def pixB (w h : Int) (ds : List Int) (x y : Int) : Bool := decide (0 ≤ x ∧ x < w ∧ 0 ≤ y ∧ y < h) && bitAt (ds.getD (y * strd w + x / 8).toNat 0) (x % 8).toNat
theorem at_ok {w h : Int} (hw : 0 ≤ w) {x y : Int} {l : Nat} (hx0 : 0 ≤ x) (hx1 : x < w) (hy0 : 0 ≤ y) (hy1 : y < h) (hl : (l : Int) = strd w * h) : 0 ≤ y * strd w ∧ 0 ≤ y * strd w + x / 8 ∧ y * strd w + x / 8 < l := by
  have h1 : x / 8 < strd w := by unfold strd; omega
  have h2 : y * strd w ≤ (h - 1) * strd w := Int.mul_le_mul_of_nonneg_right (by omega) (by unfold strd; omega)
  have h3 : (h - 1) * strd w = strd w * h - strd w := by rw [Int.sub_mul, Int.one_mul, Int.mul_comm]
  have h4 : 0 ≤ y * strd w := Int.mul_nonneg hy0 (by unfold strd; omega)
  omega
theorem Bytes.at {ds : List Int} (h : Bytes ds) (i : Nat) : 0 ≤ ds.getD i 0 ∧ ds.getD i 0 ≤ 255 := by
  rw [List.getD_eq_getElem?_getD]
  cases e : ds[i]? with
  | none => simp
  | some d => exact h d (List.mem_of_getElem? e)
theorem is_r (fu : Nat) {w h : Int} {ds : List Int} (hw0 : 0 ≤ w) (hw1 : w ≤ 1024) (hh : h ≤ 1024) (hl : (ds.length : Int) = strd w * h) (hb : Bytes ds) (x y : Int) : bitmap_Is_r fu ((w, (h, ds)), (x, (y, ()))) = some (pixB w h ds x y, ()) := by
  unfold bitmap_Is_r pixB
  simp only
  by_cases h1 : 0 ≤ x
  · rw [bif_pos h1]
    by_cases h2 : x < w
    · rw [bif_pos h2]
      by_cases h3 : 0 ≤ y
      · rw [bif_pos h3]
        by_cases h4 : y < h
        · rw [bif_pos h4, stride_r fu hw0 (by omega)]
          simp only [bindO_some]
          obtain ⟨g0, g1, g2⟩ := at_ok hw0 h1 h2 h3 h4 hl
          have hs : strd w * h ≤ 128 * 1024 := by
            have a1 : strd w ≤ 128 := by unfold strd; omega
            have a2 : 0 ≤ strd w := by unfold strd; omega
            have := Int.mul_le_mul a1 hh (by omega : 0 ≤ h) (by omega : (0 : Int) ≤ 128)
            omega
          rw [Int.tdiv_eq_ediv_of_nonneg h1, Int.tmod_eq_emod_of_nonneg h1, wr64 (x := x / 8) (by omega) (by omega), wr64 (x := y * strd w) (by omega) (by omega), wr64 (x := y * strd w + x / 8) (by omega) (by omega)]
          rw [bif_and g1 g2, bif_and (by omega) (by omega), and_mask (hb.at _).1 (hb.at _).2 (by omega)]
          rw [decide_eq_true (show 0 ≤ x ∧ x < w ∧ 0 ≤ y ∧ y < h from ⟨h1, h2, h3, h4⟩), Bool.true_and]
          have := mask_ne (k := (x % 8).toNat) (by omega)
          cases bitAt (ds.getD (y * strd w + x / 8).toNat 0) (x % 8).toNat with
          | true => rw [if_pos rfl, decide_eq_true this]
          | false => rw [if_neg (by simp)]; rfl
        · rw [bif_neg h4, decide_eq_false (by omega)]; rfl
      · rw [bif_neg h3, decide_eq_false (by omega)]; rfl
    · rw [bif_neg h2, decide_eq_false (by omega)]; rfl
  · rw [bif_neg h1, decide_eq_false (by omega)]; rfl
theorem bit_r (fu : Nat) {w h : Int} {ds : List Int} (hw0 : 1 ≤ w) (hw1 : w ≤ 1024) (hh0 : 1 ≤ h) (hh : h ≤ 1024) (hl : (ds.length : Int) = strd w * h) (hb : Bytes ds) (x y : Int) : R_Bit_r fu ((w, (h, ds)), (x, (y, ()))) = some (pixB w h ds x y, ()) := by
  unfold R_Bit_r
  simp only [joinF_eq, within_r, bindO_some]
  rw [wr64 (x := w - 1) (by omega) (by omega), wr64 (x := h - 1) (by omega) (by omega)]
  by_cases h1 : 0 ≤ x ∧ x < w
  · rw [decide_eq_true h1.1, decide_eq_true (show x ≤ w - 1 by omega)]
    by_cases h2 : 0 ≤ y ∧ y < h
    · rw [decide_eq_true h2.1, decide_eq_true (show y ≤ h - 1 by omega)]
      show R_Bit_j1 fu ((w, (h, ds)), (x, (y, ()))) false = _
      unfold R_Bit_j1 pixB
      simp only [cond_false]
      have hs : strd w * h ≤ 128 * 1024 := by
        have a1 : strd w ≤ 128 := by unfold strd; omega
        have a2 : 0 ≤ strd w := by unfold strd; omega
        have := Int.mul_le_mul a1 hh (by omega : 0 ≤ h) (by omega : (0 : Int) ≤ 128)
        omega
      obtain ⟨g0, g1, g2⟩ := at_ok (w := w) (by omega) h1.1 h1.2 h2.1 h2.2 hl
      have e1 : IntKind.i64.wrap (Int.tdiv (IntKind.i64.wrap (w + 7)) 8) = strd w := by
        rw [wr64 (x := w + 7) (by omega) (by omega), Int.tdiv_eq_ediv_of_nonneg (by omega), wr64 (x := (w + 7) / 8) (by omega) (by omega)]; rfl
      have h10 := h1.1
      rw [e1, Int.tdiv_eq_ediv_of_nonneg h1.1, Int.tmod_eq_emod_of_nonneg h1.1, wr64 (x := x / 8) (by omega) (by omega), wr64 (x := y * strd w) (by omega) (by omega), wr64 (x := y * strd w + x / 8) (by omega) (by omega)]
      rw [bif_and g1 g2, bif_and (by omega) (by omega), shl_bit (hb.at _).1 (hb.at _).2 (by omega)]
      rw [decide_eq_true (show 0 ≤ x ∧ x < w ∧ 0 ≤ y ∧ y < h from ⟨h1.1, h1.2, h2.1, h2.2⟩), Bool.true_and]
      cases bitAt (ds.getD (y * strd w + x / 8).toNat 0) (x % 8).toNat <;> rfl
    · have : (decide (0 ≤ y) && decide (y ≤ h - 1)) = false := by
        rw [← Bool.not_eq_true, Bool.and_eq_true]
        simp; omega
      rw [this]
      show R_Bit_j1 fu ((w, (h, ds)), (x, (y, ()))) true = _
      unfold R_Bit_j1 pixB
      rw [decide_eq_false (show ¬ (0 ≤ x ∧ x < w ∧ 0 ≤ y ∧ y < h) by omega)]; rfl
  · have : (decide (0 ≤ x) && decide (x ≤ w - 1)) = false := by
      rw [← Bool.not_eq_true, Bool.and_eq_true]
      simp; omega
    rw [this]
    show R_Bit_j1 fu ((w, (h, ds)), (x, (y, ()))) true = _
    unfold R_Bit_j1 pixB
    rw [decide_eq_false (show ¬ (0 ≤ x ∧ x < w ∧ 0 ≤ y ∧ y < h) by omega)]; rfl
end Go.Proofs.Ytnbmldnahacnlaa
/- Strips: Check and BitsErr. -/
namespace Go.Proofs.Ytnbmldnahacnlaa
open Go Go.RowKit

theorem and_neg_lo {v : Int} : (decide (1 ≤ v) && decide (v ≤ 1024)) = decide (1 ≤ v ∧ v ≤ 1024) := by
  by_cases h : 1 ≤ v <;> by_cases h' : v ≤ 1024 <;> simp [h, h']
theorem check_r {fu : Nat} (hf : 18446744073709551616 ≤ fu) {w h : Int} {ds : List Int} (hb : Bytes ds) : bitmap_Check_r fu ((w, (h, ds)), ()) = some (bitsE w h ds, ()) := by
  unfold bitmap_Check_r bitsE
  simp only [joinF_eq]
  have bad : ∀ p : Prop, ¬ (1 ≤ w ∧ w ≤ 1024 ∧ 1 ≤ h ∧ h ≤ 1024) → bitmap_Check_j1 fu ((w, (h, ds)), ()) true = some (if 1 ≤ w ∧ w ≤ 1024 ∧ 1 ≤ h ∧ h ≤ 1024 then (if ds.length = strideN w.toNat * h.toNat then (if tailOk w.toNat h.toNat ds = true then 0 else 4) else 4) else 3, ()) := by
    intro _ hn
    rw [if_neg hn]; rfl
  by_cases h1 : w < 1
  · rw [bif_pos h1]; exact bad True (by omega)
  rw [bif_neg h1]
  by_cases h2 : 1024 < w
  · rw [bif_pos h2]; exact bad True (by omega)
  rw [bif_neg h2]
  by_cases h3 : h < 1
  · rw [bif_pos h3]; exact bad True (by omega)
  rw [bif_neg h3]
  by_cases h4 : 1024 < h
  · rw [decide_eq_true h4]; exact bad True (by omega)
  rw [decide_eq_false h4, if_pos (by omega)]
  clear bad
  unfold bitmap_Check_j1
  simp only [cond_false]
  rw [stride_r fu (by omega) (by omega)]
  simp only [bindO_some, joinF_eq]
  have hs0 : 1 ≤ strd w ∧ strd w ≤ 128 ∧ w ≤ 8 * strd w ∧ 8 * strd w ≤ w + 7 := by unfold strd; omega
  have hN : strd w = (strideN w.toNat : Int) := strd_N (by omega)
  have hs : 0 ≤ strd w * h ∧ strd w * h ≤ 128 * 1024 := ⟨Int.mul_nonneg (by omega) (by omega), by
    have := Int.mul_le_mul hs0.2.1 (show h ≤ 1024 by omega) (by omega : 0 ≤ h) (by omega : (0 : Int) ≤ 128)
    omega⟩
  rw [wr64 (x := strd w * h) (by omega) (by omega), wr64 (x := 8 * strd w) (by omega) (by omega), wr64 (x := 8 * strd w - w) (by omega) (by omega)]
  have hmul : strd w * h = ((strideN w.toNat * h.toNat : Nat) : Int) := by rw [hN, Int.natCast_mul]; congr 1; omega
  by_cases hl : ds.length = strideN w.toNat * h.toNat
  · rw [bif_neg (by rw [hmul, hl]; simp), if_pos hl, bif_and (by omega) (by omega)]
    have e4 : IntKind.u8.wrap (IntKind.u8.wrap (1 * 2 ^ (8 * strd w - w).toNat) - 1) = 2 ^ (8 * strd w - w).toNat - 1 := wrap_pow (by omega)
    rw [e4]
    have hu : (8 * strd w - w).toNat = 8 * strideN w.toNat - w.toNat := by omega
    by_cases hz : w = 8 * strd w
    · have : (2 : Int) ^ (8 * strd w - w).toNat - 1 = 0 := by rw [show (8 * strd w - w).toNat = 0 by omega]; rfl
      rw [this, bif_neg (by simp)]
      have ht : tailOk w.toNat h.toNat ds = true := by
        refine List.all_eq_true.2 fun y _ => ?_
        rw [show 8 * strideN w.toNat - w.toNat = 0 by omega]
        unfold lowOk
        simp [Int.emod_one]
      rw [if_pos ht]; rfl
    · have hne : (2 : Int) ^ (8 * strd w - w).toNat - 1 ≠ 0 := by
        have : ∀ u : Fin 8, 0 < u.val → (2 : Int) ^ u.val - 1 ≠ 0 := by decide
        exact this ⟨(8 * strd w - w).toNat, by omega⟩ (by show 0 < (8 * strd w - w).toNat; omega)
      rw [bif_pos hne]
      let p : Nat → Bool := fun y => lowOk (ds.getD (y * strideN w.toNat + strideN w.toNat - 1) 0) (8 * strideN w.toNat - w.toNat)
      have := loopF_spec (f := bitmap_Check_l3 fu ((w, (h, ds)), ()) (strd w) (2 ^ (8 * strd w - w).toNat - 1) (bitmap_Check_j2 fu)) (fun y : Int => (h - y).toNat) (fun y => 0 ≤ y ∧ y ≤ h) (fun y => some (if allFrom p h.toNat y.toNat = true then 0 else 4, ())) (fun j y ⟨i0, i1⟩ hj => ?_) fu 0 ⟨by omega, by omega⟩ (by omega)
      · rw [this]
        show some (if allFrom p h.toNat 0 = true then (0 : Int) else 4, ()) = _
        rw [allFrom_zero]; rfl
      · unfold bitmap_Check_l3
        simp only
        by_cases hy : y < h
        · obtain ⟨g0, g1, g2⟩ := at_ok (w := w) (h := h) (x := w - 1) (y := y) (l := ds.length) (by omega) (by omega) (by omega) i0 hy (by rw [hmul, hl])
          have g3 : y * strd w + strd w ≤ strd w * h := by
            have := Int.mul_le_mul_of_nonneg_right (show y + 1 ≤ h by omega) (show 0 ≤ strd w by omega)
            rw [Int.add_mul, Int.one_mul, Int.mul_comm h] at this
            exact this
          rw [bif_pos hy, wr64 (x := y * strd w) (by omega) (by omega), wr64 (x := y * strd w + strd w) (by omega) (by omega), wr64 (x := y * strd w + strd w - 1) (by omega) (by omega), bif_and (by omega) (by rw [hl, ← hmul]; omega)]
          rw [and_low (hb.at _).1 (hb.at _).2 (by omega), allFrom_lt (by omega)]
          have ei : (y * strd w + strd w - 1).toNat = y.toNat * strideN w.toNat + strideN w.toNat - 1 := by
            have : y * strd w = ((y.toNat * strideN w.toNat : Nat) : Int) := by rw [hN, Int.natCast_mul]; congr 1; omega
            omega
          have ep : p y.toNat = decide (ds.getD (y * strd w + strd w - 1).toNat 0 % 2 ^ (8 * strd w - w).toNat = 0) := by
            show lowOk _ _ = _
            unfold lowOk
            rw [ei, hu]; rfl
          by_cases hd : ds.getD (y * strd w + strd w - 1).toNat 0 % 2 ^ (8 * strd w - w).toNat = 0
          · rw [bif_neg (by simpa using hd), wr64 (x := y + 1) (by omega) (by omega), hj (y + 1) ⟨by omega, by omega⟩ (by omega), ep, decide_eq_true hd, Bool.true_and]
            rw [show (y + 1).toNat = y.toNat + 1 by omega]
          · rw [bif_pos hd, ep, decide_eq_false hd, Bool.false_and]; rfl
        · rw [bif_neg hy, allFrom_ge (by omega)]; rfl
  · rw [bif_pos (by rw [hmul]; omega), if_neg hl]
theorem bitsErr_r {fu : Nat} (hf : 18446744073709551616 ≤ fu) {w h : Int} {ds : List Int} (hb : Bytes ds) : R_BitsErr_r fu ((w, (h, ds)), ()) = some (bitsE w h ds, ()) := by
  unfold R_BitsErr_r bitsE
  simp only [joinF_eq, within_r, bindO_some, and_neg_lo]
  by_cases h1 : 1 ≤ w ∧ w ≤ 1024
  · rw [decide_eq_true h1]
    by_cases h2 : 1 ≤ h ∧ h ≤ 1024
    · rw [decide_eq_true h2, if_pos (by omega)]
      show R_BitsErr_j1 fu ((w, (h, ds)), ()) false = _
      unfold R_BitsErr_j1
      simp only [cond_false]
      have e1 : IntKind.i64.wrap (Int.tdiv (IntKind.i64.wrap (w + 7)) 8) = strd w := by
        rw [wr64 (x := w + 7) (by omega) (by omega), Int.tdiv_eq_ediv_of_nonneg (by omega), wr64 (x := (w + 7) / 8) (by omega) (by omega)]; rfl
      have hs0 : 1 ≤ strd w ∧ strd w ≤ 128 ∧ w ≤ 8 * strd w ∧ 8 * strd w ≤ w + 7 := by unfold strd; omega
      have hN : strd w = (strideN w.toNat : Int) := strd_N (by omega)
      have hs : 0 ≤ strd w * h ∧ strd w * h ≤ 128 * 1024 := ⟨Int.mul_nonneg (by omega) (by omega), by
        have := Int.mul_le_mul hs0.2.1 (show h ≤ 1024 by omega) (by omega : 0 ≤ h) (by omega : (0 : Int) ≤ 128)
        omega⟩
      have hmul : strd w * h = ((strideN w.toNat * h.toNat : Nat) : Int) := by rw [hN, Int.natCast_mul]; congr 1; omega
      rw [e1, wr64 (x := strd w * h) (by omega) (by omega)]
      by_cases hl : ds.length = strideN w.toNat * h.toNat
      · rw [bif_neg (by rw [hmul, hl]; simp), if_pos hl, ← rows_tail hb (by omega) hl]
        unfold rowsOk
        rw [← allFrom_zero]
        let p : Nat → Bool := fun i => byteOk w.toNat (strideN w.toNat) i (ds.getD i 0)
        refine loopF_spec (f := R_BitsErr_l2 fu ((w, (h, ds)), ()) (strd w)) (fun i : Int => ((ds.length : Int) - i).toNat) (fun i => 0 ≤ i ∧ i ≤ ds.length) (fun i => some (if allFrom p ds.length i.toNat = true then 0 else 4, ())) (fun j i ⟨i0, i1⟩ hj => ?_) fu 0 ⟨by omega, by omega⟩ (by omega)
        unfold R_BitsErr_l2
        simp only
        by_cases hi : i < ds.length
        · rw [bif_pos hi, bif_and i0 hi, allFrom_lt (by omega)]
          let q : Nat → Bool := pixOk w.toNat (strideN w.toNat) i.toNat (ds.getD i.toNat 0)
          have hp : p i.toNat = allFrom q 8 0 := by rw [allFrom_zero]; rfl
          rw [hp]
          refine (loopF_spec (f := R_BitsErr_l3 fu ((w, (h, ds)), ()) (strd w) i (ds.getD i.toNat 0) j) (fun k : Int => (8 - k).toNat) (fun k => 0 ≤ k ∧ k ≤ 8) (fun k => some (if (allFrom q 8 k.toNat && allFrom p ds.length (i.toNat + 1)) = true then 0 else 4, ())) (fun j' k ⟨k0, k1⟩ hj' => ?_) fu 0 ⟨by omega, by omega⟩ (by omega))
          unfold R_BitsErr_l3
          simp only
          by_cases hk : k < 8
          · rw [bif_pos hk, allFrom_lt (by omega)]
            simp only [joinF_eq]
            rw [bif_pos (by omega), Int.tmod_eq_emod_of_nonneg i0]
            have em : i % strd w = ((i.toNat % strideN w.toNat : Nat) : Int) := by rw [hN, Int.natCast_emod, Int.toNat_of_nonneg i0]
            have hlt : i.toNat % strideN w.toNat < strideN w.toNat := Nat.mod_lt _ (by omega)
            rw [em, wr64 (x := ((i.toNat % strideN w.toNat : Nat) : Int) * 8) (by omega) (by omega), wr64 (x := ((i.toNat % strideN w.toNat : Nat) : Int) * 8 + k) (by omega) (by omega)]
            have good : q k.toNat = true → R_BitsErr_j4 fu k j' false = some (if (q k.toNat && allFrom q 8 (k.toNat + 1) && allFrom p ds.length (i.toNat + 1)) = true then 0 else 4, ()) := by
              intro hq
              unfold R_BitsErr_j4
              simp only [cond_false]
              rw [wr64 (x := k + 1) (by omega) (by omega), hj' (k + 1) ⟨by omega, by omega⟩ (by omega), hq, Bool.true_and]
              rw [show (k + 1).toNat = k.toNat + 1 by omega]
            by_cases hle : w ≤ ((i.toNat % strideN w.toNat : Nat) : Int) * 8 + k
            · rw [bif_pos hle, bif_and k0 (by omega), shl_bit (hb.at _).1 (hb.at _).2 (by omega)]
              have hq : q k.toNat = !bitAt (ds.getD i.toNat 0) k.toNat := by
                show pixOk _ _ _ _ _ = _
                unfold pixOk
                rw [decide_eq_true (by omega), Bool.true_and]
              cases hbt : bitAt (ds.getD i.toNat 0) k.toNat with
              | true =>
                rw [hbt] at hq
                rw [if_pos rfl, hq]; rfl
              | false =>
                rw [hbt] at hq
                rw [if_neg (by simp)]
                exact good hq
            · rw [bif_neg hle]
              refine good ?_
              show pixOk _ _ _ _ _ = _
              unfold pixOk
              rw [decide_eq_false (by omega)]; rfl
          · rw [bif_neg hk, allFrom_ge (i := k.toNat) (by omega), Bool.true_and, wr64 (x := i + 1) (by omega) (by omega), hj (i + 1) ⟨by omega, by omega⟩ (by omega)]
            rw [show (i + 1).toNat = i.toNat + 1 by omega]
        · rw [bif_neg hi, allFrom_ge (by omega)]; rfl
      · rw [bif_pos (by rw [hmul]; omega), if_neg hl]
    · rw [decide_eq_false h2, if_neg (by omega)]; rfl
  · rw [decide_eq_false h1, if_neg (by omega)]; rfl
end Go.Proofs.Ytnbmldnahacnlaa
/- StripReadings: patches, bitmaps, areas. -/
namespace Go.Proofs.Ytnbmldnahacnlaa
open Go Go.RowKit
set_option linter.unusedSimpArgs false
set_option linter.unusedSectionVars false
set_option linter.unusedVariables false
abbrev PatT := Int × Int × Int × Int × Int
abbrev BmT := Int × Int × List Int
def pA (l : List PatT) (i : Nat) : PatT := l.getD i (0, (0, (0, (0, 0))))
def bA (g : List BmT) (i : Nat) : BmT := g.getD i (0, (0, []))
theorem pA_fold (l : List PatT) (i : Nat) : List.getD l i (0, (0, (0, (0, 0)))) = pA l i := rfl
theorem bA_fold (g : List BmT) (i : Nat) : List.getD g i (0, (0, [])) = bA g i := rfl
/-- what a patch must keep to -/
def patR (n w : Int) (p : PatT) : Prop := ((0 ≤ p.2.2.1 ∧ p.2.2.1 ≤ 1) ∧ 0 ≤ p.2.2.2.1 ∧ p.2.2.2.1 ≤ n - 1) ∧ (0 ≤ p.2.2.2.2 ∧ p.2.2.2.2 ≤ 15) ∧ (1 ≤ p.2.1 ∧ p.2.1 ≤ w) ∧ 0 ≤ p.1 ∧ p.1 ≤ w - p.2.1
instance (n w : Int) (p : PatT) : Decidable (patR n w p) := by unfold patR; infer_instance
def patE (l : List PatT) (n w : Int) (i : Nat) : Int := if patR n w (pA l i) then (if 0 < i ∧ (pA l i).1 < (pA l (i - 1)).1 + (pA l (i - 1)).2.1 then 18 else 0) else 3
def patsE (l : List PatT) (n w : Int) : Int := if 256 < l.length then 2 else if (1 ≤ n ∧ n ≤ 8) ∧ 1 ≤ w ∧ w ≤ 1024 then firstE (patE l n w) l.length 0 else 3
theorem patE_ok {l : List PatT} {n w : Int} {i : Nat} (h : patE l n w i = 0) : patR n w (pA l i) := by
  unfold patE at h
  split at h
  · rename_i c; exact c
  · omega
theorem patsE_ok {l : List PatT} {n w : Int} (h : patsE l n w = 0) : l.length ≤ 256 ∧ ((1 ≤ n ∧ n ≤ 8) ∧ 1 ≤ w ∧ w ≤ 1024) ∧ ∀ i, i < l.length → patR n w (pA l i) := by
  unfold patsE at h
  split at h
  · omega
  · split at h
    · rename_i c1 c2
      exact ⟨by omega, c2, fun i hi => patE_ok (firstE_ok _ 0 h i (by omega) (by omega))⟩
    · omega
theorem t3 {l : List PatT} {n w : Int} {i : Nat} (h : ¬ patR n w (pA l i)) : patE l n w i = 3 := by unfold patE; rw [if_neg h]
theorem t18 {l : List PatT} {n w : Int} {i : Nat} (h : patR n w (pA l i)) (h' : 0 < i ∧ (pA l i).1 < (pA l (i - 1)).1 + (pA l (i - 1)).2.1) : patE l n w i = 18 := by unfold patE; rw [if_pos h, if_pos h']
theorem t0 {l : List PatT} {n w : Int} {i : Nat} (h : patR n w (pA l i)) (h' : ¬ (0 < i ∧ (pA l i).1 < (pA l (i - 1)).1 + (pA l (i - 1)).2.1)) : patE l n w i = 0 := by unfold patE; rw [if_pos h, if_neg h']
section
variable {fu : Nat} (hf : 18446744073709551616 ≤ fu) {l : List PatT} {n w : Int}
include hf
theorem stripCheck_r : strip_Check_r fu (l, (n, (w, ()))) = some (patsE l n w, ()) := by
  unfold strip_Check_r strip_Check_j1 patsE
  by_cases c1 : 256 < l.length
  · rw [if_pos c1]; simp (disch := omega) only [joinF_eq, bindO_some, s_wr, s_td, s_tm, s_pos, s_neg, cond_true, cond_false, Bool.not_true, Bool.not_false, Bool.true_and, Bool.and_true, Bool.false_and, Bool.and_false, bne_self_eq_false, decide_true, decide_false, Int.toNat_natCast]
  rw [if_neg c1]
  simp (disch := omega) only [joinF_eq, bindO_some, s_wr, s_td, s_tm, s_pos, s_neg, cond_true, cond_false, Bool.not_true, Bool.not_false, Bool.true_and, Bool.and_true, Bool.false_and, Bool.and_false, bne_self_eq_false, decide_true, decide_false, Int.toNat_natCast]
  by_cases c2 : n < 1
  · rw [if_neg (by omega)]; simp (disch := omega) only [joinF_eq, bindO_some, s_wr, s_td, s_tm, s_pos, s_neg, cond_true, cond_false, Bool.not_true, Bool.not_false, Bool.true_and, Bool.and_true, Bool.false_and, Bool.and_false, bne_self_eq_false, decide_true, decide_false, Int.toNat_natCast]
  by_cases c3 : 8 < n
  · rw [if_neg (by omega)]; simp (disch := omega) only [joinF_eq, bindO_some, s_wr, s_td, s_tm, s_pos, s_neg, cond_true, cond_false, Bool.not_true, Bool.not_false, Bool.true_and, Bool.and_true, Bool.false_and, Bool.and_false, bne_self_eq_false, decide_true, decide_false, Int.toNat_natCast]
  by_cases c4 : w < 1
  · rw [if_neg (by omega)]; simp (disch := omega) only [joinF_eq, bindO_some, s_wr, s_td, s_tm, s_pos, s_neg, cond_true, cond_false, Bool.not_true, Bool.not_false, Bool.true_and, Bool.and_true, Bool.false_and, Bool.and_false, bne_self_eq_false, decide_true, decide_false, Int.toNat_natCast]
  by_cases c5 : 1024 < w
  · rw [if_neg (by omega)]; simp (disch := omega) only [joinF_eq, bindO_some, s_wr, s_td, s_tm, s_pos, s_neg, cond_true, cond_false, Bool.not_true, Bool.not_false, Bool.true_and, Bool.and_true, Bool.false_and, Bool.and_false, bne_self_eq_false, decide_true, decide_false, Int.toNat_natCast]
  rw [if_pos (by omega)]
  simp (disch := omega) only [joinF_eq, bindO_some, s_wr, s_td, s_tm, s_pos, s_neg, cond_true, cond_false, Bool.not_true, Bool.not_false, Bool.true_and, Bool.and_true, Bool.false_and, Bool.and_false, bne_self_eq_false, decide_true, decide_false, Int.toNat_natCast]
  have key := errGen (f := strip_Check_l2 fu (l, (n, (w, ())))) (n := l.length) (st := fun i => (i : Int)) (E := patE l n w) (out := fun e => some (e, ())) (fin := some (0, ())) ?_ ?_ fu 0 (by omega) (by omega) (by omega)
  · rw [Nat.sub_zero] at key
    refine key.trans ?_
    split
    · rename_i e; rw [e]
    · rfl
  · intro j i hi hE
    unfold strip_Check_l2
    simp (disch := omega) only [joinF_eq, bindO_some, s_wr, s_td, s_tm, s_pos, s_neg, cond_true, cond_false, Bool.not_true, Bool.not_false, Bool.true_and, Bool.and_true, Bool.false_and, Bool.and_false, bne_self_eq_false, decide_true, decide_false, Int.toNat_natCast]
    have k3 : patE l n w i = 3 → ∀ v, strip_Check_j3 fu (l, (n, (w, ()))) (i : Int) v j true = if patE l n w i = 0 then j ((i + 1 : Nat) : Int) else some (patE l n w i, ()) := fun h v => by rw [h]; rfl
    show (bif decide ((pA l i).2.2.1 < 0) then _ else bif decide (1 < (pA l i).2.2.1) then _ else bif decide ((pA l i).2.2.2.1 < 0) then _ else bif decide (n ≤ (pA l i).2.2.2.1) then _ else bif decide ((pA l i).2.2.2.2 < 0) then _ else bif decide (16 ≤ (pA l i).2.2.2.2) then _ else
      bif decide ((pA l i).2.1 < 1) then _ else bif decide (w < (pA l i).2.1) then _ else bif decide ((pA l i).1 < 0) then _ else strip_Check_j3 fu _ _ (pA l i) j (decide (IntKind.i64.wrap (w - (pA l i).2.1) < (pA l i).1))) = _
    by_cases g1 : (pA l i).2.2.1 < 0
    · simp (disch := omega) only [joinF_eq, bindO_some, s_wr, s_td, s_tm, s_pos, s_neg, cond_true, cond_false, Bool.not_true, Bool.not_false, Bool.true_and, Bool.and_true, Bool.false_and, Bool.and_false, bne_self_eq_false, decide_true, decide_false, Int.toNat_natCast]; exact k3 (t3 (by unfold patR; omega)) _
    by_cases g2 : 1 < (pA l i).2.2.1
    · simp (disch := omega) only [joinF_eq, bindO_some, s_wr, s_td, s_tm, s_pos, s_neg, cond_true, cond_false, Bool.not_true, Bool.not_false, Bool.true_and, Bool.and_true, Bool.false_and, Bool.and_false, bne_self_eq_false, decide_true, decide_false, Int.toNat_natCast]; exact k3 (t3 (by unfold patR; omega)) _
    by_cases g3 : (pA l i).2.2.2.1 < 0
    · simp (disch := omega) only [joinF_eq, bindO_some, s_wr, s_td, s_tm, s_pos, s_neg, cond_true, cond_false, Bool.not_true, Bool.not_false, Bool.true_and, Bool.and_true, Bool.false_and, Bool.and_false, bne_self_eq_false, decide_true, decide_false, Int.toNat_natCast]; exact k3 (t3 (by unfold patR; omega)) _
    by_cases g4 : n ≤ (pA l i).2.2.2.1
    · simp (disch := omega) only [joinF_eq, bindO_some, s_wr, s_td, s_tm, s_pos, s_neg, cond_true, cond_false, Bool.not_true, Bool.not_false, Bool.true_and, Bool.and_true, Bool.false_and, Bool.and_false, bne_self_eq_false, decide_true, decide_false, Int.toNat_natCast]; exact k3 (t3 (by unfold patR; omega)) _
    by_cases g5 : (pA l i).2.2.2.2 < 0
    · simp (disch := omega) only [joinF_eq, bindO_some, s_wr, s_td, s_tm, s_pos, s_neg, cond_true, cond_false, Bool.not_true, Bool.not_false, Bool.true_and, Bool.and_true, Bool.false_and, Bool.and_false, bne_self_eq_false, decide_true, decide_false, Int.toNat_natCast]; exact k3 (t3 (by unfold patR; omega)) _
    by_cases g6 : 16 ≤ (pA l i).2.2.2.2
    · simp (disch := omega) only [joinF_eq, bindO_some, s_wr, s_td, s_tm, s_pos, s_neg, cond_true, cond_false, Bool.not_true, Bool.not_false, Bool.true_and, Bool.and_true, Bool.false_and, Bool.and_false, bne_self_eq_false, decide_true, decide_false, Int.toNat_natCast]; exact k3 (t3 (by unfold patR; omega)) _
    by_cases g7 : (pA l i).2.1 < 1
    · simp (disch := omega) only [joinF_eq, bindO_some, s_wr, s_td, s_tm, s_pos, s_neg, cond_true, cond_false, Bool.not_true, Bool.not_false, Bool.true_and, Bool.and_true, Bool.false_and, Bool.and_false, bne_self_eq_false, decide_true, decide_false, Int.toNat_natCast]; exact k3 (t3 (by unfold patR; omega)) _
    by_cases g8 : w < (pA l i).2.1
    · simp (disch := omega) only [joinF_eq, bindO_some, s_wr, s_td, s_tm, s_pos, s_neg, cond_true, cond_false, Bool.not_true, Bool.not_false, Bool.true_and, Bool.and_true, Bool.false_and, Bool.and_false, bne_self_eq_false, decide_true, decide_false, Int.toNat_natCast]; exact k3 (t3 (by unfold patR; omega)) _
    by_cases g9 : (pA l i).1 < 0
    · simp (disch := omega) only [joinF_eq, bindO_some, s_wr, s_td, s_tm, s_pos, s_neg, cond_true, cond_false, Bool.not_true, Bool.not_false, Bool.true_and, Bool.and_true, Bool.false_and, Bool.and_false, bne_self_eq_false, decide_true, decide_false, Int.toNat_natCast]; exact k3 (t3 (by unfold patR; omega)) _
    by_cases g10 : w - (pA l i).2.1 < (pA l i).1
    · simp (disch := omega) only [joinF_eq, bindO_some, s_wr, s_td, s_tm, s_pos, s_neg, cond_true, cond_false, Bool.not_true, Bool.not_false, Bool.true_and, Bool.and_true, Bool.false_and, Bool.and_false, bne_self_eq_false, decide_true, decide_false, Int.toNat_natCast]; exact k3 (t3 (by unfold patR; omega)) _
    unfold strip_Check_j3 strip_Check_j4
    by_cases z : 0 < i
    · have hp := patE_ok (hE (i - 1) (by omega))
      unfold patR at hp
      simp (disch := omega) only [joinF_eq, bindO_some, s_wr, s_td, s_tm, s_pos, s_neg, cond_true, cond_false, Bool.not_true, Bool.not_false, Bool.true_and, Bool.and_true, Bool.false_and, Bool.and_false, bne_self_eq_false, decide_true, decide_false, Int.toNat_natCast]
      rw [show ((i : Int) - 1).toNat = i - 1 by omega]
      show (bif decide ((pA l i).1 < IntKind.i64.wrap ((pA l (i - 1)).1 + (pA l (i - 1)).2.1)) then _ else _) = _
      by_cases q : (pA l i).1 < (pA l (i - 1)).1 + (pA l (i - 1)).2.1
      · rw [t18 (by unfold patR; omega) (by omega)]; simp (disch := omega) only [joinF_eq, bindO_some, s_wr, s_td, s_tm, s_pos, s_neg, cond_true, cond_false, Bool.not_true, Bool.not_false, Bool.true_and, Bool.and_true, Bool.false_and, Bool.and_false, bne_self_eq_false, decide_true, decide_false, Int.toNat_natCast]; rfl
      · rw [t0 (by unfold patR; omega) (by omega)]; simp (disch := omega) only [joinF_eq, bindO_some, s_wr, s_td, s_tm, s_pos, s_neg, cond_true, cond_false, Bool.not_true, Bool.not_false, Bool.true_and, Bool.and_true, Bool.false_and, Bool.and_false, bne_self_eq_false, decide_true, decide_false, Int.toNat_natCast]; rfl
    · rw [t0 (by unfold patR; omega) (by omega)]; simp (disch := omega) only [joinF_eq, bindO_some, s_wr, s_td, s_tm, s_pos, s_neg, cond_true, cond_false, Bool.not_true, Bool.not_false, Bool.true_and, Bool.and_true, Bool.false_and, Bool.and_false, bne_self_eq_false, decide_true, decide_false, Int.toNat_natCast]; rfl
  · intro hE j
    unfold strip_Check_l2
    simp (disch := omega) only [joinF_eq, bindO_some, s_wr, s_td, s_tm, s_pos, s_neg, cond_true, cond_false, Bool.not_true, Bool.not_false, Bool.true_and, Bool.and_true, Bool.false_and, Bool.and_false, bne_self_eq_false, decide_true, decide_false, Int.toNat_natCast]
theorem patsErr_r : R_PatchesErr_r fu (l, (n, (w, ()))) = some (patsE l n w, ()) := by
  unfold R_PatchesErr_r R_PatchesErr_j1 patsE
  by_cases c1 : 256 < l.length
  · rw [if_pos c1]; simp (disch := omega) only [joinF_eq, bindO_some, s_wr, s_td, s_tm, s_pos, s_neg, cond_true, cond_false, Bool.not_true, Bool.not_false, Bool.true_and, Bool.and_true, Bool.false_and, Bool.and_false, bne_self_eq_false, decide_true, decide_false, Int.toNat_natCast]
  rw [if_neg c1]
  simp (disch := omega) only [joinF_eq, bindO_some, s_wr, s_td, s_tm, s_pos, s_neg, cond_true, cond_false, Bool.not_true, Bool.not_false, Bool.true_and, Bool.and_true, Bool.false_and, Bool.and_false, bne_self_eq_false, decide_true, decide_false, Int.toNat_natCast, within_r]
  by_cases c2 : n < 1
  · rw [if_neg (by omega)]; simp (disch := omega) only [joinF_eq, bindO_some, s_wr, s_td, s_tm, s_pos, s_neg, cond_true, cond_false, Bool.not_true, Bool.not_false, Bool.true_and, Bool.and_true, Bool.false_and, Bool.and_false, bne_self_eq_false, decide_true, decide_false, Int.toNat_natCast]
  by_cases c3 : 8 < n
  · rw [if_neg (by omega)]; simp (disch := omega) only [joinF_eq, bindO_some, s_wr, s_td, s_tm, s_pos, s_neg, cond_true, cond_false, Bool.not_true, Bool.not_false, Bool.true_and, Bool.and_true, Bool.false_and, Bool.and_false, bne_self_eq_false, decide_true, decide_false, Int.toNat_natCast]
  simp (disch := omega) only [joinF_eq, bindO_some, s_wr, s_td, s_tm, s_pos, s_neg, cond_true, cond_false, Bool.not_true, Bool.not_false, Bool.true_and, Bool.and_true, Bool.false_and, Bool.and_false, bne_self_eq_false, decide_true, decide_false, Int.toNat_natCast]
  by_cases c4 : w < 1
  · rw [if_neg (by omega)]; simp (disch := omega) only [joinF_eq, bindO_some, s_wr, s_td, s_tm, s_pos, s_neg, cond_true, cond_false, Bool.not_true, Bool.not_false, Bool.true_and, Bool.and_true, Bool.false_and, Bool.and_false, bne_self_eq_false, decide_true, decide_false, Int.toNat_natCast]
  by_cases c5 : 1024 < w
  · rw [if_neg (by omega)]; simp (disch := omega) only [joinF_eq, bindO_some, s_wr, s_td, s_tm, s_pos, s_neg, cond_true, cond_false, Bool.not_true, Bool.not_false, Bool.true_and, Bool.and_true, Bool.false_and, Bool.and_false, bne_self_eq_false, decide_true, decide_false, Int.toNat_natCast]
  rw [if_pos (by omega)]
  simp (disch := omega) only [joinF_eq, bindO_some, s_wr, s_td, s_tm, s_pos, s_neg, cond_true, cond_false, Bool.not_true, Bool.not_false, Bool.true_and, Bool.and_true, Bool.false_and, Bool.and_false, bne_self_eq_false, decide_true, decide_false, Int.toNat_natCast]
  have key := errGen (f := R_PatchesErr_l2 fu (l, (n, (w, ())))) (n := l.length) (st := fun i => (if i = 0 then 0 else (pA l (i - 1)).1 + (pA l (i - 1)).2.1, (i : Int))) (E := patE l n w) (out := fun e => some (e, ())) (fin := some (0, ())) ?_ ?_ fu 0 (by omega) (by omega) (by omega)
  · rw [Nat.sub_zero] at key
    refine key.trans ?_
    split
    · rename_i e; rw [e]
    · rfl
  · intro j i hi hE
    rw [if_neg (show ¬ i + 1 = 0 by omega), Nat.add_sub_cancel]
    have he : 0 < i → (if i = 0 then (0 : Int) else (pA l (i - 1)).1 + (pA l (i - 1)).2.1) = (pA l (i - 1)).1 + (pA l (i - 1)).2.1 := fun h => if_neg (by omega)
    have he0 : i = 0 → (if i = 0 then (0 : Int) else (pA l (i - 1)).1 + (pA l (i - 1)).2.1) = 0 := fun h => if_pos h
    generalize (if i = 0 then (0 : Int) else (pA l (i - 1)).1 + (pA l (i - 1)).2.1) = x at he he0 ⊢
    unfold R_PatchesErr_l2
    simp (disch := omega) only [joinF_eq, bindO_some, s_wr, s_td, s_tm, s_pos, s_neg, cond_true, cond_false, Bool.not_true, Bool.not_false, Bool.true_and, Bool.and_true, Bool.false_and, Bool.and_false, bne_self_eq_false, decide_true, decide_false, Int.toNat_natCast, within_r]
    have k3 : patE l n w i = 3 → ∀ v s, R_PatchesErr_j3 fu v (pA l i) j true = if patE l n w i = 0 then j s else some (patE l n w i, ()) := fun h v s => by rw [h]; rfl
    rw [pA_fold]
    by_cases g1 : (pA l i).2.2.1 < 0
    · simp (disch := omega) only [joinF_eq, bindO_some, s_wr, s_td, s_tm, s_pos, s_neg, cond_true, cond_false, Bool.not_true, Bool.not_false, Bool.true_and, Bool.and_true, Bool.false_and, Bool.and_false, bne_self_eq_false, decide_true, decide_false, Int.toNat_natCast]; exact k3 (t3 (by unfold patR; omega)) _ _
    by_cases g2 : 1 < (pA l i).2.2.1
    · simp (disch := omega) only [joinF_eq, bindO_some, s_wr, s_td, s_tm, s_pos, s_neg, cond_true, cond_false, Bool.not_true, Bool.not_false, Bool.true_and, Bool.and_true, Bool.false_and, Bool.and_false, bne_self_eq_false, decide_true, decide_false, Int.toNat_natCast]; exact k3 (t3 (by unfold patR; omega)) _ _
    simp (disch := omega) only [joinF_eq, bindO_some, s_wr, s_td, s_tm, s_pos, s_neg, cond_true, cond_false, Bool.not_true, Bool.not_false, Bool.true_and, Bool.and_true, Bool.false_and, Bool.and_false, bne_self_eq_false, decide_true, decide_false, Int.toNat_natCast]
    by_cases g3 : (pA l i).2.2.2.1 < 0
    · simp (disch := omega) only [joinF_eq, bindO_some, s_wr, s_td, s_tm, s_pos, s_neg, cond_true, cond_false, Bool.not_true, Bool.not_false, Bool.true_and, Bool.and_true, Bool.false_and, Bool.and_false, bne_self_eq_false, decide_true, decide_false, Int.toNat_natCast]; exact k3 (t3 (by unfold patR; omega)) _ _
    by_cases g4 : n - 1 < (pA l i).2.2.2.1
    · simp (disch := omega) only [joinF_eq, bindO_some, s_wr, s_td, s_tm, s_pos, s_neg, cond_true, cond_false, Bool.not_true, Bool.not_false, Bool.true_and, Bool.and_true, Bool.false_and, Bool.and_false, bne_self_eq_false, decide_true, decide_false, Int.toNat_natCast]; exact k3 (t3 (by unfold patR; omega)) _ _
    simp (disch := omega) only [joinF_eq, bindO_some, s_wr, s_td, s_tm, s_pos, s_neg, cond_true, cond_false, Bool.not_true, Bool.not_false, Bool.true_and, Bool.and_true, Bool.false_and, Bool.and_false, bne_self_eq_false, decide_true, decide_false, Int.toNat_natCast]
    by_cases g5 : (pA l i).2.2.2.2 < 0
    · simp (disch := omega) only [joinF_eq, bindO_some, s_wr, s_td, s_tm, s_pos, s_neg, cond_true, cond_false, Bool.not_true, Bool.not_false, Bool.true_and, Bool.and_true, Bool.false_and, Bool.and_false, bne_self_eq_false, decide_true, decide_false, Int.toNat_natCast]; exact k3 (t3 (by unfold patR; omega)) _ _
    by_cases g6 : 15 < (pA l i).2.2.2.2
    · simp (disch := omega) only [joinF_eq, bindO_some, s_wr, s_td, s_tm, s_pos, s_neg, cond_true, cond_false, Bool.not_true, Bool.not_false, Bool.true_and, Bool.and_true, Bool.false_and, Bool.and_false, bne_self_eq_false, decide_true, decide_false, Int.toNat_natCast]; exact k3 (t3 (by unfold patR; omega)) _ _
    simp (disch := omega) only [joinF_eq, bindO_some, s_wr, s_td, s_tm, s_pos, s_neg, cond_true, cond_false, Bool.not_true, Bool.not_false, Bool.true_and, Bool.and_true, Bool.false_and, Bool.and_false, bne_self_eq_false, decide_true, decide_false, Int.toNat_natCast]
    by_cases g7 : (pA l i).2.1 < 1
    · simp (disch := omega) only [joinF_eq, bindO_some, s_wr, s_td, s_tm, s_pos, s_neg, cond_true, cond_false, Bool.not_true, Bool.not_false, Bool.true_and, Bool.and_true, Bool.false_and, Bool.and_false, bne_self_eq_false, decide_true, decide_false, Int.toNat_natCast]; exact k3 (t3 (by unfold patR; omega)) _ _
    by_cases g8 : w < (pA l i).2.1
    · simp (disch := omega) only [joinF_eq, bindO_some, s_wr, s_td, s_tm, s_pos, s_neg, cond_true, cond_false, Bool.not_true, Bool.not_false, Bool.true_and, Bool.and_true, Bool.false_and, Bool.and_false, bne_self_eq_false, decide_true, decide_false, Int.toNat_natCast]; exact k3 (t3 (by unfold patR; omega)) _ _
    simp (disch := omega) only [joinF_eq, bindO_some, s_wr, s_td, s_tm, s_pos, s_neg, cond_true, cond_false, Bool.not_true, Bool.not_false, Bool.true_and, Bool.and_true, Bool.false_and, Bool.and_false, bne_self_eq_false, decide_true, decide_false, Int.toNat_natCast]
    by_cases g9 : (pA l i).1 < 0
    · simp (disch := omega) only [joinF_eq, bindO_some, s_wr, s_td, s_tm, s_pos, s_neg, cond_true, cond_false, Bool.not_true, Bool.not_false, Bool.true_and, Bool.and_true, Bool.false_and, Bool.and_false, bne_self_eq_false, decide_true, decide_false, Int.toNat_natCast]; exact k3 (t3 (by unfold patR; omega)) _ _
    by_cases g10 : w - (pA l i).2.1 < (pA l i).1
    · simp (disch := omega) only [joinF_eq, bindO_some, s_wr, s_td, s_tm, s_pos, s_neg, cond_true, cond_false, Bool.not_true, Bool.not_false, Bool.true_and, Bool.and_true, Bool.false_and, Bool.and_false, bne_self_eq_false, decide_true, decide_false, Int.toNat_natCast]; exact k3 (t3 (by unfold patR; omega)) _ _
    unfold R_PatchesErr_j3
    simp (disch := omega) only [joinF_eq, bindO_some, s_wr, s_td, s_tm, s_pos, s_neg, cond_true, cond_false, Bool.not_true, Bool.not_false, Bool.true_and, Bool.and_true, Bool.false_and, Bool.and_false, bne_self_eq_false, decide_true, decide_false, Int.toNat_natCast]
    by_cases z : 0 < i
    · have he := he z
      by_cases q : (pA l i).1 < x
      · rw [t18 (by unfold patR; omega) (by omega)]; simp (disch := omega) only [joinF_eq, bindO_some, s_wr, s_td, s_tm, s_pos, s_neg, cond_true, cond_false, Bool.not_true, Bool.not_false, Bool.true_and, Bool.and_true, Bool.false_and, Bool.and_false, bne_self_eq_false, decide_true, decide_false, Int.toNat_natCast]; rfl
      · rw [t0 (by unfold patR; omega) (by omega)]; simp (disch := omega) only [joinF_eq, bindO_some, s_wr, s_td, s_tm, s_pos, s_neg, cond_true, cond_false, Bool.not_true, Bool.not_false, Bool.true_and, Bool.and_true, Bool.false_and, Bool.and_false, bne_self_eq_false, decide_true, decide_false, Int.toNat_natCast]; rfl
    · have he0 := he0 (by omega)
      rw [t0 (by unfold patR; omega) (by omega)]; simp (disch := omega) only [joinF_eq, bindO_some, s_wr, s_td, s_tm, s_pos, s_neg, cond_true, cond_false, Bool.not_true, Bool.not_false, Bool.true_and, Bool.and_true, Bool.false_and, Bool.and_false, bne_self_eq_false, decide_true, decide_false, Int.toNat_natCast]; rfl
  · intro hE j
    unfold R_PatchesErr_l2
    simp (disch := omega) only [joinF_eq, bindO_some, s_wr, s_td, s_tm, s_pos, s_neg, cond_true, cond_false, Bool.not_true, Bool.not_false, Bool.true_and, Bool.and_true, Bool.false_and, Bool.and_false, bne_self_eq_false, decide_true, decide_false, Int.toNat_natCast]
end
end Go.Proofs.Ytnbmldnahacnlaa
/- StripReadings: the areas. -/
namespace Go.Proofs.Ytnbmldnahacnlaa
open Go Go.RowKit
set_option linter.unusedSimpArgs false
set_option linter.unusedSectionVars false
set_option linter.unusedVariables false
def cxN (T : Nat → Bool) : Nat → Int
  | 0 => 0
  | k + 1 => cxN T k + (bif T k then 1 else 0)
theorem cxN_bd (T : Nat → Bool) : ∀ k, 0 ≤ cxN T k ∧ cxN T k ≤ k
  | 0 => ⟨Int.le_refl _, Int.le_refl _⟩
  | k + 1 => by
    have := cxN_bd T k
    unfold cxN
    cases T k <;> simp only [cond_true, cond_false] <;> omega
def cyN (T : Nat → Nat → Bool) (w : Nat) : Nat → Int
  | 0 => 0
  | y + 1 => cyN T w y + cxN (T y) w
theorem cyN_bd (T : Nat → Nat → Bool) {w : Nat} (hw : w ≤ 1024) : ∀ y, 0 ≤ cyN T w y ∧ cyN T w y ≤ 1024 * y
  | 0 => ⟨Int.le_refl _, Int.le_refl _⟩
  | y + 1 => by
    have h1 := cyN_bd T hw y
    have h2 := cxN_bd (T y) w
    unfold cyN
    omega
structure BmOk (b : BmT) : Prop where
  w : 1 ≤ b.1 ∧ b.1 ≤ 1024
  h : 1 ≤ b.2.1 ∧ b.2.1 ≤ 1024
  l : (b.2.2.length : Int) = strd b.1 * b.2.1
  d : Bytes b.2.2
theorem bmOk_of {b : BmT} (hd : Bytes b.2.2) (h : bitsE b.1 b.2.1 b.2.2 = 0) : BmOk b := by
  unfold bitsE at h
  split at h
  · rename_i c
    split at h
    · rename_i c2
      refine ⟨⟨c.1, c.2.1⟩, ⟨c.2.2.1, c.2.2.2⟩, ?_, hd⟩
      rw [c2, strd_N (by omega), Int.natCast_mul, Int.toNat_of_nonneg (by omega : 0 ≤ b.2.1)]
    · omega
  · omega
def tA (b : BmT) (x0 : Int) (y x : Nat) : Bool := pixB b.1 b.2.1 b.2.2 (x0 + x) y
/-- the tone of a patch -/
def aeV (b : BmT) (p : PatT) : Int := rnd (255 * cyN (tA b p.1) p.2.1.toNat b.2.1.toNat) (p.2.1 * b.2.1)
theorem prod_bd {a b : Int} (h1 : 1 ≤ a) (h2 : a ≤ 1024) (h3 : 1 ≤ b) (h4 : b ≤ 1024) : 1 ≤ a * b ∧ a * b ≤ 1048576 := by
  have m1 : 1 * 1 ≤ a * b := Int.mul_le_mul h1 h3 (by omega) (by omega)
  have m2 : a * b ≤ 1024 * 1024 := Int.mul_le_mul h2 h4 (by omega) (by omega)
  omega
section
variable {fu : Nat} (hf : 18446744073709551616 ≤ fu) {b : BmT} (ok : BmOk b)
include hf ok
theorem area_r {p : PatT} (hw : 1 ≤ p.2.1 ∧ p.2.1 ≤ 1024) (hx : 0 ≤ p.1 ∧ p.1 ≤ 1024) : strip_area_r fu (b, (p, ())) = some (aeV b p, ()) := by
  obtain ⟨okw, okh, okl, okd⟩ := ok
  have hpr := prod_bd hw.1 hw.2 okh.1 okh.2
  unfold strip_area_r
  refine postLoop (f := strip_area_l1 fu (b, (p, ()))) (fun s : Int × Int => (b.2.1 - s.2).toNat) (fun s => ∃ y : Nat, s = (cyN (tA b p.1) p.2.1.toNat y, (y : Int)) ∧ (y : Int) ≤ b.2.1) (fun r => r = some (aeV b p, ())) ?_ fu (0, 0) ⟨0, rfl, by omega⟩ (by simp only; omega)
  rintro j _ ⟨y, rfl, k1⟩
  have hb := cyN_bd (tA b p.1) (w := p.2.1.toNat) (by omega) y
  unfold strip_area_l1
  by_cases hy : (y : Int) < b.2.1
  · refine .inl ⟨(cyN (tA b p.1) p.2.1.toNat (y + 1), (y : Int) + 1), ⟨y + 1, rfl, by omega⟩, by simp only; omega, ?_⟩
    simp (disch := omega) only [joinF_eq, bindO_some, s_wr, s_td, s_tm, s_pos, s_neg, cond_true, cond_false, Bool.not_true, Bool.not_false, Bool.true_and, Bool.and_true, Bool.false_and, Bool.and_false, bne_self_eq_false, decide_true, decide_false, Int.toNat_natCast]
    refine postLoop (f := strip_area_l2 fu (b, (p, ())) (cyN (tA b p.1) p.2.1.toNat y, (y : Int)) (y : Int) j) (fun s : Int × Int => (p.2.1 - s.2).toNat) (fun s => ∃ x : Nat, s = (cyN (tA b p.1) p.2.1.toNat y + cxN (tA b p.1 y) x, (x : Int)) ∧ (x : Int) ≤ p.2.1) (fun r => r = j (cyN (tA b p.1) p.2.1.toNat (y + 1), (y : Int) + 1)) ?_ fu (cyN (tA b p.1) p.2.1.toNat y, 0) ⟨0, by rw [cxN, Int.add_zero]; rfl, by omega⟩ (by simp only; omega)
    rintro j' _ ⟨x, rfl, q1⟩
    have hc := cxN_bd (tA b p.1 y) x
    unfold strip_area_l2 strip_area_j3
    by_cases hx' : (x : Int) < p.2.1
    · refine .inl ⟨(cyN (tA b p.1) p.2.1.toNat y + cxN (tA b p.1 y) (x + 1), (x : Int) + 1), ⟨x + 1, rfl, by omega⟩, by simp only; omega, ?_⟩
      simp (disch := omega) only [joinF_eq, bindO_some, s_wr, s_td, s_tm, s_pos, s_neg, cond_true, cond_false, Bool.not_true, Bool.not_false, Bool.true_and, Bool.and_true, Bool.false_and, Bool.and_false, bne_self_eq_false, decide_true, decide_false, Int.toNat_natCast]
      show bindO (bitmap_Is_r fu ((b.1, (b.2.1, b.2.2)), (p.1 + (x : Int), ((y : Int), ())))) _ = _
      rw [is_r fu (by omega) (by omega) (by omega) okl okd]
      rw [cxN]
      show bindO (some (tA b p.1 y x, ())) _ = _
      cases tA b p.1 y x
      · simp (disch := omega) only [joinF_eq, bindO_some, s_wr, s_td, s_tm, s_pos, s_neg, cond_true, cond_false, Bool.not_true, Bool.not_false, Bool.true_and, Bool.and_true, Bool.false_and, Bool.and_false, bne_self_eq_false, decide_true, decide_false, Int.toNat_natCast]
        rw [Int.add_zero]
      · simp (disch := omega) only [joinF_eq, bindO_some, s_wr, s_td, s_tm, s_pos, s_neg, cond_true, cond_false, Bool.not_true, Bool.not_false, Bool.true_and, Bool.and_true, Bool.false_and, Bool.and_false, bne_self_eq_false, decide_true, decide_false, Int.toNat_natCast]
        rw [Int.add_assoc]
    · refine .inr ?_
      have : x = p.2.1.toNat := by omega
      subst this
      simp (disch := omega) only [joinF_eq, bindO_some, s_wr, s_td, s_tm, s_pos, s_neg, cond_true, cond_false, Bool.not_true, Bool.not_false, Bool.true_and, Bool.and_true, Bool.false_and, Bool.and_false, bne_self_eq_false, decide_true, decide_false, Int.toNat_natCast]
      rw [cyN]
  · refine .inr ?_
    have : y = b.2.1.toNat := by omega
    subst this
    unfold aeV
    generalize cyN (tA b p.1) p.2.1.toNat b.2.1.toNat = n at hb ⊢
    simp (disch := omega) only [joinF_eq, bindO_some, s_wr, s_td, s_tm, s_pos, s_neg, cond_true, cond_false, Bool.not_true, Bool.not_false, Bool.true_and, Bool.and_true, Bool.false_and, Bool.and_false, bne_self_eq_false, decide_true, decide_false, Int.toNat_natCast, nearest_s]
end
section
variable {fu : Nat} (hf : 18446744073709551616 ≤ fu) {g : List BmT} {l : List PatT} {p q : PatT} {u : Nat} (hu : u < g.length) (hg0 : 0 < g.length) (hl : (g.length : Int) ≤ 9223372036854775807) (ok : BmOk (bA g u)) (hh : (bA g 0).2.1 = (bA g u).2.1) (hp : p.2.2.2.1 = u)
include hf hu hg0 hl ok hh hp
theorem lawArea {k : Nat} {arr : List Int} {c : PatT} (hk : k < 2) (ha : arr.length = 2) (hc : c = if k = 0 then p else q) (hw : 1 ≤ c.2.1 ∧ c.2.1 ≤ 1024) (hx : 0 ≤ c.1 ∧ c.1 ≤ 1024) (j : Int × List Int → Option (Bool × Unit)) :
    loopF (law_StripReadings_l11 fu (l, (g, ())) p q ((k : Int), arr) (k : Int) (bA g 0) j) fu (0, 0) = j ((k : Int) + 1, arr.set k (aeV (bA g u) c)) := by
  obtain ⟨okw, okh, okl, okd⟩ := ok
  have hpr := prod_bd hw.1 hw.2 okh.1 okh.2
  have hX : List.getD (p.1 :: (q.1 :: ([] : List Int))) k 0 = c.1 := by
    rcases (by omega : k = 0 ∨ k = 1) with rfl | rfl <;> rw [hc] <;> rfl
  have hW : List.getD (p.2.1 :: (q.2.1 :: ([] : List Int))) k 0 = c.2.1 := by
    rcases (by omega : k = 0 ∨ k = 1) with rfl | rfl <;> rw [hc] <;> rfl
  refine postLoop (f := law_StripReadings_l11 fu (l, (g, ())) p q ((k : Int), arr) (k : Int) (bA g 0) j) (fun s : Int × Int => ((bA g u).2.1 - s.2).toNat) (fun s => ∃ y : Nat, s = (cyN (tA (bA g u) c.1) c.2.1.toNat y, (y : Int)) ∧ (y : Int) ≤ (bA g u).2.1) (fun r => r = j ((k : Int) + 1, arr.set k (aeV (bA g u) c))) ?_ fu (0, 0) ⟨0, rfl, by omega⟩ (by simp only; omega)
  rintro j1 _ ⟨y, rfl, k1⟩
  have hb := cyN_bd (tA (bA g u) c.1) (w := c.2.1.toNat) (by omega) y
  unfold law_StripReadings_l11
  by_cases hy : (y : Int) < (bA g u).2.1
  · refine .inl ⟨(cyN (tA (bA g u) c.1) c.2.1.toNat (y + 1), (y : Int) + 1), ⟨y + 1, rfl, by omega⟩, by simp only; omega, ?_⟩
    simp (disch := omega) only [joinF_eq, bindO_some, s_wr, s_td, s_tm, s_pos, s_neg, cond_true, cond_false, Bool.not_true, Bool.not_false, Bool.true_and, Bool.and_true, Bool.false_and, Bool.and_false, bne_self_eq_false, decide_true, decide_false, Int.toNat_natCast, hX]
    refine postLoop (f := law_StripReadings_l12 fu (l, (g, ())) p q ((k : Int), arr) (cyN (tA (bA g u) c.1) c.2.1.toNat y, (y : Int)) (y : Int) j1) (fun s : Int × Int => (c.1 + c.2.1 - s.2).toNat) (fun s => ∃ x : Nat, s = (cyN (tA (bA g u) c.1) c.2.1.toNat y + cxN (tA (bA g u) c.1 y) x, c.1 + (x : Int)) ∧ (x : Int) ≤ c.2.1) (fun r => r = j1 (cyN (tA (bA g u) c.1) c.2.1.toNat (y + 1), (y : Int) + 1)) ?_ fu (cyN (tA (bA g u) c.1) c.2.1.toNat y, c.1) ⟨0, by rw [cxN, Int.add_zero, show c.1 + ((0 : Nat) : Int) = c.1 by omega], by omega⟩ (by simp only; omega)
    rintro j' _ ⟨x, rfl, q1⟩
    have hcx := cxN_bd (tA (bA g u) c.1 y) x
    unfold law_StripReadings_l12 law_StripReadings_j13
    by_cases hx' : (x : Int) < c.2.1
    · refine .inl ⟨(cyN (tA (bA g u) c.1) c.2.1.toNat y + cxN (tA (bA g u) c.1 y) (x + 1), c.1 + (x : Int) + 1), ⟨x + 1, by rw [show c.1 + ((x + 1 : Nat) : Int) = c.1 + (x : Int) + 1 by omega], by omega⟩, by simp only; omega, ?_⟩
      simp (disch := omega) only [joinF_eq, bindO_some, s_wr, s_td, s_tm, s_pos, s_neg, cond_true, cond_false, Bool.not_true, Bool.not_false, Bool.true_and, Bool.and_true, Bool.false_and, Bool.and_false, bne_self_eq_false, decide_true, decide_false, Int.toNat_natCast, hX, hW, hp, bA_fold]
      show bindO (R_Bit_r fu (((bA g u).1, ((bA g u).2.1, (bA g u).2.2)), (c.1 + (x : Int), ((y : Int), ())))) _ = _
      rw [bit_r fu okw.1 okw.2 okh.1 okh.2 okl okd]
      rw [cxN]
      show bindO (some (tA (bA g u) c.1 y x, ())) _ = _
      cases tA (bA g u) c.1 y x
      · simp (disch := omega) only [joinF_eq, bindO_some, s_wr, s_td, s_tm, s_pos, s_neg, cond_true, cond_false, Bool.not_true, Bool.not_false, Bool.true_and, Bool.and_true, Bool.false_and, Bool.and_false, bne_self_eq_false, decide_true, decide_false, Int.toNat_natCast]
        rw [Int.add_zero]
      · simp (disch := omega) only [joinF_eq, bindO_some, s_wr, s_td, s_tm, s_pos, s_neg, cond_true, cond_false, Bool.not_true, Bool.not_false, Bool.true_and, Bool.and_true, Bool.false_and, Bool.and_false, bne_self_eq_false, decide_true, decide_false, Int.toNat_natCast]
        rw [Int.add_assoc]
    · refine .inr ?_
      have : x = c.2.1.toNat := by omega
      subst this
      simp (disch := omega) only [joinF_eq, bindO_some, s_wr, s_td, s_tm, s_pos, s_neg, cond_true, cond_false, Bool.not_true, Bool.not_false, Bool.true_and, Bool.and_true, Bool.false_and, Bool.and_false, bne_self_eq_false, decide_true, decide_false, Int.toNat_natCast, hX, hW]
      rw [cyN]
  · refine .inr ?_
    have : y = (bA g u).2.1.toNat := by omega
    subst this
    unfold aeV
    generalize cyN (tA (bA g u) c.1) c.2.1.toNat (bA g u).2.1.toNat = n at hb ⊢
    simp (disch := omega) only [joinF_eq, bindO_some, s_wr, s_td, s_tm, s_pos, s_neg, cond_true, cond_false, Bool.not_true, Bool.not_false, Bool.true_and, Bool.and_true, Bool.false_and, Bool.and_false, bne_self_eq_false, decide_true, decide_false, Int.toNat_natCast, hX, hW, bA_fold, Int.toNat_zero, hh]
    rw [round_s fu (by omega) (by omega) (by omega) (by omega)]
    simp (disch := omega) only [joinF_eq, bindO_some, s_wr, s_td, s_tm, s_pos, s_neg, cond_true, cond_false, Bool.not_true, Bool.not_false, Bool.true_and, Bool.and_true, Bool.false_and, Bool.and_false, bne_self_eq_false, decide_true, decide_false, Int.toNat_natCast]
end
end Go.Proofs.Ytnbmldnahacnlaa
