/- Decompiling: regions that draw their order: the machine over terms says what they do. No program in sight. -/
import Derived.Test.YtdfocbeejgcglaaZSD3
import Derived.Test.YtdfocbeejgcglaaProg
import Derived.Below
/- Decompiling: regions that draw their order: the machine over terms says what they do. No program in sight. -/
namespace Go.Proofs.Ytdfocbeejgcglaa
open Go Go.RowKit

theorem OpF.le {P : Program} {n : Nat} {s s' : ASt} {o : Oper} {x : AV} (h : LeS s s') (k : OpF P n o s x) : OpF P n o s' x := ⟨k.dst, fun K a w G r => k.out K a w G (r.les h)⟩
theorem gdst_looks {ops : Array Oper} {o : Oper} {d : Nat} {want : Bool} (h : gdst ops o = some (d, want)) : d ∈ o.looksAt ops := by
  unfold gdst at h
  unfold Oper.looksAt
  split at h
  · rename_i j want' hg
    rw [Option.map_eq_some_iff] at h
    obtain ⟨d', h1, h2⟩ := h
    injection h2 with h2 _
    subst h2
    rw [hg]
    simp [h1]
  · cases h
theorem lregs_get {ops : Array Oper} {o : Oper} {s : ASt} {d : Nat} (hd : d ∈ o.looksAt ops) : look .any (Dr.lregs ops s o) d = look .any s.regs d := by
  unfold Dr.lregs
  revert hd
  generalize o.looksAt ops = l
  induction l with
  | nil => intro h; cases h
  | cons a l ih =>
    intro h
    rw [List.map_cons, look_cons]
    by_cases e : a = d
    · subst e; rw [if_pos rfl]
    · rw [if_neg e]
      exact ih ((List.mem_cons.1 h).resolve_left fun e' => e e'.symm)
def nxOf (nx0 b0 : Nat) (st : SSt D) : Nat := nx0 + (st.nx - b0)
/-- what holds between the operations -/
structure RI (F : List (Nat → AV)) (m : Nat → Nat) (nx0 b0 : Nat) (st0 st : SSt D) : Prop where
  mok : MOk m (nxOf nx0 b0 st) st
  ge : b0 ≤ st.nx
  fr : FrOk m st.blk st.fr F
  fix : Fix st0 st
  good : ∀ k, st.blk k ≠ .dead → Good b0 st0 k
section
variable {P : Program} {n : Nat} {F : List (Nat → AV)} {ρ : Ty} {fu : Nat} {C : DC} {r : ρ.den}
variable {m : Nat → Nat} {nx0 b0 : Nat} {st0 st : SSt D} {T : List (List Nat)} {ws cr : List (Nat × Nat)} {i : Nat} {ops : Array Oper} {o : Oper} {l : List Oper} {Kt : ASt → Prop}
theorem RI.put (h : RI F m nx0 b0 st0 st) (d : Option Nat) (x : SV D) : RI F m nx0 b0 st0 (st.put d x) := by
  have e : nxOf nx0 b0 (st.put d x) = nxOf nx0 b0 st := by cases d <;> rfl
  refine ⟨by rw [e]; exact put_mok h.mok d x, by cases d <;> exact h.ge, by rw [put_blk]; cases d <;> exact h.fr, h.fix.trans (put_fix st d x), by rw [put_blk]; exact h.good⟩
theorem gst_yesS (h : wantS ops o st = .yes) {nx : Nat} {W cr : List (Nat × Nat)} : o.guard = none ∨ gst ops o (Dr.lcl ops T W nx0 i cr (st.enc m nx) o 0) = some true := by
  unfold wantS at h
  split at h
  · rename_i hg; exact .inl hg
  · split at h
    · cases h
    · rename_i d want hg
      right
      have e := wantV_yes (m := m) (st := st) h
      rw [← enc_get st m nx, ← lregs_get (gdst_looks hg)] at e
      unfold gst
      rw [hg]
      show (match look AV.any (Dr.lregs ops (st.enc m nx) o) d, want with
        | .bool true, true => some true
        | .bool false, false => some true
        | .bool true, false => some false
        | .bool false, true => some false
        | .und, _ => some false
        | _, _ => none) = _
      rw [e]
      cases want <;> rfl
theorem gst_noS (h : wantS ops o st = .no) {nx : Nat} {W cr : List (Nat × Nat)} : gst ops o (Dr.lcl ops T W nx0 i cr (st.enc m nx) o 0) = some false := by
  obtain ⟨d, want, hg, hb⟩ := wantS_no (m := m) (nx := nx) h
  rw [← lregs_get (gdst_looks hg)] at hb
  unfold gst
  rw [hg]
  show (match look AV.any (Dr.lregs ops (st.enc m nx) o) d, want with
    | .bool true, true => some true
    | .bool false, false => some true
    | .bool true, false => some false
    | .bool false, true => some false
    | .und, _ => some false
    | _, _ => none) = _
  rcases hb with hb | hb <;> rw [hb] <;> cases want <;> rfl
theorem gst_put {d : Nat} {want b : Bool} (hg : gdst ops o = some (d, want)) {nx : Nat} {W cr : List (Nat × Nat)} : gst ops o (Dr.lcl ops T W nx0 i cr ((st.put (some d) (.bool (.bL b))).enc m nx) o 0) = some (b == want) := by
  have e : look AV.any (Dr.lregs ops ((st.put (some d) (.bool (.bL b))).enc m nx) o) d = .bool b := by
    rw [lregs_get (gdst_looks hg), put_enc]
    show look .any ((d, SV.enc m st.blk (.bool (.bL b))) :: (st.enc m nx).regs) d = _
    rw [look_self, SV.enc]; rfl
  unfold gst
  rw [hg]
  show (match look AV.any (Dr.lregs ops ((st.put (some d) (.bool (.bL b))).enc m nx) o) d, want with
    | .bool true, true => some true
    | .bool false, false => some true
    | .bool true, false => some false
    | .bool false, true => some false
    | .und, _ => some false
    | _, _ => none) = _
  rw [e]
  cases b <;> cases want <;> rfl
theorem lclS_memS : MemLe m (lclS ops T ws b0 i cr st o).blk m st.blk (visS T ws b0 i cr) (fun k _ => visS T ws b0 i cr k) := by
  have e : ∀ k, visS T ws b0 i cr k = true → (lclS ops T ws b0 i cr st o).blk k = st.blk k := fun k hk => by rw [lclS_blk, hk]; rfl
  exact ⟨fun id h => .inr ⟨by unfold isBox; rw [e id h], rfl⟩, fun id v h => .inr ⟨by unfold rowLen; rw [e id h], rfl⟩⟩
theorem nmdS (hL : Lay m nx0 b0 st0) (hc : ∀ p ∈ cr, b0 ≤ p.2) (hI : RI F m nx0 b0 st0 st) {x : SV D} (h : x.refs (visS T ws b0 i cr) (fun k _ => visS T ws b0 i cr k) = true) : (x.enc m (lclS ops T ws b0 i cr st o).blk).nmd (vis T nx0 i (mapP m cr)) = true := by
  have key : ∀ id, visS T ws b0 i cr id = true → (lclS ops T ws b0 i cr st o).blk id ≠ .dead → vis T nx0 i (mapP m cr) (m id) = true := by
    intro id hv hb
    rw [lclS_blk, hv] at hb
    rw [vis_m hL hc (hI.good id hb)]
    unfold visS at hv
    rw [Bool.and_eq_true] at hv
    exact hv.1
  refine enc_nmd (fun id hp hb => key id hp fun e => ?_) (fun id v n hp hb => key id hp fun e => ?_) x h
  · unfold isBox at hb; rw [e] at hb; cases hb
  · unfold rowLen at hb; rw [e] at hb; cases hb
theorem liveS (hL : Lay m nx0 b0 st0) (hc : ∀ p ∈ cr, b0 ≤ p.2) (hI : RI F m nx0 b0 st0 st) {id : Nat} (hv : visS T ws b0 i cr id = true) (hb : st.blk id ≠ .dead) : vis T nx0 i (mapP m cr) (m id) = true := by
  rw [vis_m hL hc (hI.good id hb)]
  unfold visS at hv
  rw [Bool.and_eq_true] at hv
  exact hv.1
theorem nmdB (hL : Lay m nx0 b0 st0) (hc : ∀ p ∈ cr, b0 ≤ p.2) (hI : RI F m nx0 b0 st0 st) {b : SB D} (h : b.refs (visS T ws b0 i cr) (fun k _ => visS T ws b0 i cr k) = true) : (b.enc m st.blk).nmd (vis T nx0 i (mapP m cr)) = true := by
  cases b with
  | dead => rfl
  | box cs e =>
    rw [SB.refs] at h
    refine encL_nmd (fun id hp hb => liveS hL hc hI hp fun e => ?_) (fun id v n hp hb => liveS hL hc hI hp fun e => ?_) cs h
    · unfold isBox at hb; rw [e] at hb; cases hb
    · unfold rowLen at hb; rw [e] at hb; cases hb
  | row fr t xs e v =>
    show List.all _ _ = true
    refine List.all_eq_true.2 fun row hr => ?_
    obtain ⟨x, _, rfl⟩ := List.mem_map.1 hr
    have e1 : SV.encL m st.blk (cellsE fr t (.var x : E D t)) = t.cells fr x := cellsE_enc fr t (.var x)
    rw [← e1]
    exact encL_nmd (pB := fun _ => false) (pR := fun _ _ => false) (fun id h => by cases h) (fun id v n h => by cases h) _ (cells_nmd _ _)
theorem lregs_ev {s : ASt} {x : Operand} (hx : x ∈ o.op.operands.toList) {hp : List (Nat × AB)} {k : Nat} : (⟨Dr.lregs ops s o, hp, k⟩ : ASt).ev x = s.ev x := by
  cases x with
  | tmp t =>
    show look .any (Dr.lregs ops s o) t = look .any s.regs t
    refine lregs_get ?_
    unfold Oper.looksAt
    rw [List.mem_append]
    left
    rw [List.mem_filterMap]
    exact ⟨.tmp t, hx, rfl⟩
  | const v => rfl
  | global g => rfl
  | func f => rfl
theorem opWr_box {t : TypeId} {x y : Operand} {z : Option Value} {s b : Nat} {id off : Nat} {cs vs : List AV} {e : TypeId} {g : Option (Nat × Bool)} {ty : TypeId} {ps : String} {af : Array Edge} {st : ASt} (hx : st.ev x = .box id off) (hb : look .dead st.heap id = .box cs e) (hy : (st.ev y).cells = vs) (h1 : allOne vs = true) (hI : tyI P t = some (z, s, b)) (hs : vs.length = s) (hle : off + s ≤ cs.length) :
    Dr.OpWr P n ⟨none, .store t x y, ty, ps, af, g⟩ st id (.box (setR cs off vs) e) .und := ⟨rfl, fun K a w G r => by
  subst hy
  have r : RelG ⟨K.w0, w, G⟩ n st a w G := ⟨r.nx, r.hr, Ext.refl _ _, r.size, r.defers, r.regs⟩
  have e1 := r.ev x
  rw [hx] at e1
  have hcv := (r.ev y).cellsV h1
  obtain ⟨gg, us, e2, hρ, _, _, _⟩ := r.boxAt hb e1
  have hid : id < G.nx := by
    have hk := r.hr.blk id
    rw [hb] at hk
    exact hk.1
  obtain ⟨w', hrun, r2, hk2⟩ := RelG.storeBox (P := P) (e := e) hid hρ (st.ev y).cells (a.eval y).cells.toList 0 off cs w r hb (by have := hcv.size; simp; omega) (by simpa using hcv.size) (fun v hv => by
    obtain ⟨i, hi, hv⟩ := List.getElem_of_mem hv
    exact hcv.one i v (by rw [← hv]; simp)) (fun j x' v hx' hv => hcv.rel j x' v hx' (by simpa using hv))
  refine ⟨undef, w', G, .inr ⟨?_, rfl⟩, r2.hr, r2.ext, rfl, fun j hne => ⟨rfl, rfl, fun hj g hg => hk2 g fun e => ?_⟩, .dat .und⟩
  · simp [execOp, Instr.storeAt, e2, Instr.sureAddr, run_storeVar' hI (show (a.eval y).cells.size = s by rw [hcv.size, hs]), hrun]
  · subst e
    exact r.hr.dist j id g hj hid hne hg (by rw [hρ]; rfl)⟩
theorem onlyW_m {id : Nat} (h : Dr.onlyW ws i id = true) : Dr.onlyW (mapP m ws) i (m id) = true := by
  unfold Dr.onlyW mapP at *
  rw [List.all_map]
  refine List.all_eq_true.2 fun p hp => ?_
  have := List.all_eq_true.1 h p hp
  show (bif Nat.beq p.1 i then Nat.beq (m p.2) (m id) else true) = true
  cases hb : Nat.beq p.1 i with
  | false => rfl
  | true =>
    rw [hb] at this
    have := Nat.eq_of_beq_eq_true this
    rw [this]
    exact Nat.beq_refl _
theorem storeB_ok {Tb : Tab} {t : TypeId} {a v : SV D} {id : Nat} {b : SB D} (h : storeB Tb st t a v = some (id, b)) : ∃ Z s bb off cs e, lk Tb.inf t = some (Z, s, bb) ∧ allOneS st v.cells = true ∧ v.cells.length = s ∧ a = .box id off ∧ st.blk id = .box cs e ∧ off + s ≤ cs.length ∧ b = .box (setRS cs off v.cells) e := by
  unfold storeB at h
  split at h
  · rename_i Z s bb hI
    cases hc : (allOneS st v.cells && Nat.beq v.cells.length s) with
    | false => rw [hc] at h; cases h
    | true =>
      rw [hc] at h
      simp only [cond_true] at h
      rw [Bool.and_eq_true] at hc
      split at h
      · rename_i id' off
        split at h
        · rename_i cs e hb
          cases hl : Nat.ble (off + s) cs.length with
          | false => rw [hl] at h; cases h
          | true =>
            rw [hl] at h
            simp only [cond_true, Option.some.injEq, Prod.mk.injEq] at h
            obtain ⟨rfl, rfl⟩ := h
            exact ⟨Z, s, bb, off, cs, e, hI, hc.1, Nat.eq_of_beq_eq_true hc.2, rfl, hb, Nat.le_of_ble_eq_true hl, rfl⟩
        · cases h
      · cases h
  · cases h
abbrev AGm (P : Program) (n : Nat) (ops : Array Oper) (T : List (List Nat)) (ws : List (Nat × Nat)) (nx0 b0 : Nat) (m : Nat → Nat) (Kt : ASt → Prop) (i : Nat) (cr : List (Nat × Nat)) (l : List Oper) (st : SSt D) : Prop :=
  Dr.AG P n ops T (mapP m ws) nx0 Kt i (mapP m cr) l (st.enc m (nxOf nx0 b0 st))
theorem AGm.put {d : Option Nat} {x : SV D} {y : AV} (hx : Les (x.enc m st.blk) y) (k : AGm P n ops T ws nx0 b0 m Kt i cr l (st.put d x)) : Dr.AG P n ops T (mapP m ws) nx0 Kt i (mapP m cr) l ((st.enc m (nxOf nx0 b0 st)).put d y) := by
  have e : nxOf nx0 b0 (st.put d x) = nxOf nx0 b0 st := by cases d <;> rfl
  refine .le ?_ k
  rw [e, put_enc]
  exact (LeS.refl _).put hx
theorem skipR_ok (hd : dok o.dst n = true) (hW : Dr.noW ws i = true) (hg : gst ops o (Dr.lcl ops T (mapP m ws) nx0 i (mapP m cr) (st.enc m (nxOf nx0 b0 st)) o 0) = some false) (k : AGm P n ops T ws nx0 b0 m Kt (i + 1) cr l (st.put o.dst .und)) : AGm P n ops T ws nx0 b0 m Kt i cr (o :: l) st := by
  refine .step (.skip (by rw [noW_m]; exact hW) hg hd) (AGm.put ?_ k)
  rw [SV.enc]; exact .refl _
theorem writeR_ok (hC : C.ok P) (hL : Lay m nx0 b0 st0) (hws : ∀ p ∈ ws, Good b0 st0 p.2) (hc : ∀ p ∈ cr, b0 ≤ p.2) (hI : RI F m nx0 b0 st0 st)
    (hg : o.guard = none ∨ gst ops o (Dr.lcl ops T (mapP m ws) nx0 i (mapP m cr) (st.enc m (nxOf nx0 b0 st)) o 0) = some true)
    {K : List (Nat × Nat) → SSt D → G D (KD ρ) ρ} (h : (writeR C T ws b0 i cr st o K).den fu = some r)
    (k : ∀ cr' st', RI F m nx0 b0 st0 st' → (∀ p ∈ cr', b0 ≤ p.2) → (K cr' st').den fu = some r → AGm P n ops T ws nx0 b0 m Kt (i + 1) cr' l st') : AGm P n ops T ws nx0 b0 m Kt i cr (o :: l) st := by
  obtain ⟨d, op, ty, ps, af, gg⟩ := o
  unfold writeR at h
  simp only at h
  split at h
  · rename_i t y z
    split at h
    · rename_i id b hs
      cases hb : (visS T ws b0 i cr id && (ws.any fun p => Nat.beq p.1 i && Nat.beq p.2 id) && Dr.onlyW ws i id && b.refs (visS T ws b0 i cr) (fun k _ => visS T ws b0 i cr k) && (st.blk id).refs (visS T ws b0 i cr) (fun k _ => visS T ws b0 i cr k)) with
      | false => rw [hb] at h; cases h
      | true =>
        rw [hb] at h
        simp only [cond_true] at h
        simp only [Bool.and_eq_true] at hb
        obtain ⟨⟨⟨⟨b1, b2⟩, b3⟩, b4⟩, b5⟩ := hb
        obtain ⟨Z, s, bb, off, cs, e, hI', h1, hls, ha, hblk, hle, rfl⟩ := storeB_ok hs
        have hlive : st.blk id ≠ .dead := by rw [hblk]; simp
        have hi : isBox st.blk id = true := by unfold isBox; rw [hblk]
        have ey : (st.enc m (nxOf nx0 b0 st)).ev y = .box (m id) off := by rw [enc_ev, ha, SV.enc, hi]; rfl
        have ez : ((st.enc m (nxOf nx0 b0 st)).ev z).cells = SV.encL m st.blk (st.ev z).cells := by rw [enc_ev, enc_cells]
        have hbb := enc_blk hI.mok hlive
        have hbb' := hbb
        rw [hblk, SB.enc] at hbb'
        have hset := hset_les (b := .box (setRS cs off (st.ev z).cells) e) (b' := .box (setR (SV.encL m st.blk cs) off (SV.encL m st.blk (st.ev z).cells)) e) (pB := fun _ => true) (pR := fun _ _ => true) hI.mok (.refl _) hlive (by simp) (memLe_box hblk) (refs_all st) (by
          rw [SB.enc, setRS_enc]
          have hH : ∀ l : List (SV D), LesL (SV.encL m (st.hset id (.box (setRS cs off (st.ev z).cells) e)).blk l) (SV.encL m st.blk l) := fun l => encL_les (memLe_box (pB := fun _ => true) (pR := fun _ _ => true) hblk) l (svL_refs_all l)
          exact .box e (setR_les (hH cs) (hH _) off)) hI.fr
        have hRI : RI F m nx0 b0 st0 (st.hset id (.box (setRS cs off (st.ev z).cells) e)) := ⟨hset.1, hI.ge, hset.2.2, hI.fix.trans ⟨rfl, rfl, rfl⟩, fun k hk => hI.good k (by
          rw [hset_blk] at hk
          by_cases e' : id = k
          · subst e'; exact hlive
          · rw [if_neg e'] at hk; exact hk)⟩
        refine .step (.write (id := m id) (b := .box (setR (SV.encL m st.blk cs) off (SV.encL m st.blk (st.ev z).cells)) e) (x := .und) [m id] (fun j hj => ?_) hg ?_ ?_ (onlyW_m b3) (fun hp kk hhp => ?_) ?_ rfl) (.le ?_ (k cr _ hRI hc h))
        · rw [List.mem_singleton] at hj
          subst hj
          refine ⟨?_, ?_⟩
          · unfold Dr.visW
            rw [liveS hL hc hI b1 hlive, okW_m hL hws (hI.good id hlive)]
            unfold visS at b1
            rw [Bool.and_eq_true] at b1
            rw [b1.2]; rfl
          · rw [hbb]; exact nmdB hL hc hI b5
        · unfold Dr.visW
          rw [liveS hL hc hI b1 hlive, okW_m hL hws (hI.good id hlive)]
          unfold visS at b1
          rw [Bool.and_eq_true] at b1
          rw [b1.2]; rfl
        · obtain ⟨p, hp, hpe⟩ := List.any_eq_true.1 b2
          rw [Bool.and_eq_true] at hpe
          have e1 := Nat.eq_of_beq_eq_true hpe.1
          have e2 := Nat.eq_of_beq_eq_true hpe.2
          exact List.mem_map.2 ⟨p, hp, by rw [e1, e2]⟩
        · have hz := lregs_ev (o := ⟨none, .store t y z, ty, ps, af, gg⟩) (ops := ops) (s := st.enc m (nxOf nx0 b0 st)) (x := z) (hp := hp) (k := kk) (by simp [Op.operands])
          have hy := lregs_ev (o := ⟨none, .store t y z, ty, ps, af, gg⟩) (ops := ops) (s := st.enc m (nxOf nx0 b0 st)) (x := y) (hp := hp) (k := kk) (by simp [Op.operands])
          refine opWr_box (hy.trans ey) ((hhp (m id) (by simp)).trans hbb') (by rw [hz, ez]) (allOneS_enc h1) (allP_at hC.T.inf hI') (by rw [encL_length]; exact hls) (by rw [encL_length]; exact hle)
        · have := nmdB (b := .box (setRS cs off (st.ev z).cells) e) hL hc hI b4
          rw [SB.enc, setRS_enc] at this
          exact this
        · exact hset.2.1
    · cases h
  · cases h
theorem exC_refs {pB : Nat → Bool} {pR : Nat → Nat → Bool} (fr : Bool) : ∀ (t : Ty) (cs : List (SV D)) (e : E D t) (rest : List (SV D)), exC fr t cs = some (e, rest) → SV.refsL pB pR cs = SV.refsL pB pR rest
  | .int k, cs, e, rest, h => by
    cases cs with
    | nil => rw [exC] at h; cases h; all_goals simp
    | cons c l =>
      cases c <;> simp only [exC, reduceCtorEq] at h
      split at h
      · simp only [Option.some.injEq, Prod.mk.injEq] at h
        rw [← h.2, SV.refsL, SV.refs, Bool.true_and] <;> simp
      · cases h
  | .bool, cs, e, rest, h => by
    cases cs with
    | nil => rw [exC] at h; cases h; all_goals simp
    | cons c l =>
      cases c <;> simp only [exC, reduceCtorEq, Option.some.injEq, Prod.mk.injEq] at h
      rw [← h.2, SV.refsL, SV.refs, Bool.true_and] <;> simp
  | .str, cs, e, rest, h => by
    cases cs with
    | nil => rw [exC] at h; cases h; all_goals simp
    | cons c l =>
      cases c <;> simp only [exC, reduceCtorEq, Option.some.injEq, Prod.mk.injEq] at h
      rw [← h.2, SV.refsL, SV.refs, Bool.true_and] <;> simp
  | .list t, cs, e, rest, h => by
    cases cs with
    | nil => rw [exC] at h; cases h; all_goals simp
    | cons c l =>
      cases c <;> simp only [exC, reduceCtorEq, Option.some.injEq, Prod.mk.injEq] at h
      · rw [← h.2, SV.refsL, SV.refs, Bool.true_and] <;> simp
      · rename_i fr' t' e'
        cases hc : (!fr || fr') with
        | false => rw [hc] at h; cases h
        | true =>
          rw [hc] at h
          simp only [cond_true] at h
          split at h
          · simp only [Option.some.injEq, Prod.mk.injEq] at h
            rw [← h.2, SV.refsL, SV.refs, Bool.true_and] <;> simp
          · cases h
  | .unit, cs, e, rest, h => by
    rw [exC] at h
    simp only [Option.some.injEq, Prod.mk.injEq] at h
    rw [h.2]
  | .pair a b, cs, e, rest, h => by
    rw [exC] at h
    split at h
    · rename_i x l' h1
      split at h
      · rename_i y l'' h2
        simp only [Option.some.injEq, Prod.mk.injEq] at h
        rw [← h.2]
        exact (exC_refs fr a cs x l' h1).trans (exC_refs fr b l' y l'' h2)
      · cases h
    · cases h
  | .agg t, cs, e, rest, h => by
    rw [exC] at h
    split at h
    · rename_i x l' h1
      simp only [Option.some.injEq, Prod.mk.injEq] at h
      rw [← h.2]
      exact exC_refs fr t cs x l' h1
    · cases h
  | .ptr t, cs, e, rest, h => by
    rw [exC] at h
    cases h
    all_goals simp
theorem exA_refs {pB : Nat → Bool} {pR : Nat → Nat → Bool} {fr : Bool} {t : Ty} {cs : List (SV D)} {e : E D t} (h : exA fr t cs = some e) : SV.refsL pB pR cs = true := by
  unfold exA at h
  split at h
  · rename_i x h1
    rw [exC_refs fr t cs x [] h1, SV.refsL]
  · cases h
theorem exRows_refs {pB : Nat → Bool} {pR : Nat → Nat → Bool} {fr : Bool} {t : Ty} : ∀ {rows : List (List (SV D))} {xs : E D (.list t)}, exRows fr t rows = some xs → ∀ row ∈ rows, SV.refsL pB pR row = true
  | [], xs, h, row, hr => by cases hr
  | r :: l, xs, h, row, hr => by
    rw [exRows] at h
    split at h
    · rename_i x xs' h1 h2
      rcases List.mem_cons.1 hr with rfl | hr
      · exact exA_refs h1
      · exact exRows_refs h2 row hr
    · cases h
/-- what makes a block, in any world -/
structure NewOk (P : Program) (n : Nat) (o : Oper) (lst : SSt D) (m : Nat → Nat) (b : SB D) (row : Bool) (b' : AB) : Prop where
  op : ∀ k, MOk m k lst → OpN P n o (lst.enc m k) b'
  les : LesB (b.enc m lst.blk) b'
  box : row = false → ∃ cs e cs', b = .box cs e ∧ b' = .box cs' e
  nmd : ∀ (q : Nat → Bool) (pB : Nat → Bool) (pR : Nat → Nat → Bool), (∀ id, pB id = true → isBox lst.blk id = true → q (m id) = true) → (∀ id v n, pR id v = true → rowLen lst.blk id v = some n → q (m id) = true) → b.refs pB pR = true → b'.nmd q = true
  rw : row = true → ∃ fr rt xs e rows, b = .row fr rt xs e 0 ∧ b' = .row rt.size rows e ∧ rows.length = List.length xs.den
theorem new_ok {Tb : Tab} (hT : Tb.ok P) {lst : SSt D} {b : SB D} {row : Bool} {g : E D .bool} (hn : isNew o.op = true) (h : mem0 Tb lst o.dst o.op = some (.new b row, g)) (hg : g.den = true) (hd : dok o.dst n = true) : ∃ b', NewOk P n o lst m b row b' := by
  obtain ⟨d, op, ty, ps, af, gg⟩ := o
  have hd : dok d n = true := hd
  simp only at h hn
  unfold mem0 at h
  split at h
  · rename_i e
    unfold allocS at h
    split at h
    · rename_i Z s bb h1
      cases hc : allOne (Z.cells.toList.map avOf) with
      | false => rw [hc] at h; cases h
      | true =>
        rw [hc] at h
        simp only [cond_true, Option.some.injEq, Prod.mk.injEq, MR.new.injEq] at h
        obtain ⟨⟨rfl, rfl⟩, rfl⟩ := h
        exact ⟨_, fun k _ => opN_alloc (allP_at hT.inf h1) hc hd, .box e (by rw [zeroS_enc]; exact .refl _), fun _ => ⟨_, _, _, rfl, rfl⟩, fun q pB pR hB hR hb => (by
          rw [SB.refs] at hb
          have := encL_nmd (m := m) (H := lst.blk) hB hR _ hb
          rw [zeroS_enc] at this
          exact this), fun h => by cases h⟩
    · cases h
  · rename_i e y
    unfold boxS at h
    cases hc : allOneS lst (lst.ev y).cells with
    | false => rw [hc] at h; cases h
    | true =>
      rw [hc] at h
      simp only [cond_true, Option.some.injEq, Prod.mk.injEq, MR.new.injEq] at h
      obtain ⟨⟨rfl, rfl⟩, rfl⟩ := h
      refine ⟨.box (SV.encL m lst.blk (lst.ev y).cells) e, fun k _ => ?_, .refl _, fun _ => ⟨_, _, _, rfl, rfl⟩, fun q pB pR hB hR hb => (by
          rw [SB.refs] at hb
          exact encL_nmd hB hR _ hb), fun h => by cases h⟩
      have e1 : ((lst.enc m k).ev y).cells = SV.encL m lst.blk (lst.ev y).cells := by rw [enc_ev, enc_cells]
      rw [← e1]
      exact opN_box (by rw [e1]; exact allOneS_enc hc) hd
  · split at h
    · rename_i t a v
      unfold isNew at hn
      cases hn
    · cases h
  · rename_i t y z
    unfold makeS at h
    generalize hy : lst.ev y = vy at h
    generalize hz : lst.ev z = vz at h
    split at h
    · rename_i e k L k' Cc hu
      split at h
      · rename_i Z sz bb rt hI hty
        cases hc : (allOne (Z.cells.toList.map avOf) && Nat.beq (Z.cells.toList.map avOf).length sz && Nat.blt 0 sz && Nat.blt 0 bb) with
        | false => rw [hc] at h; cases h
        | true =>
          rw [hc] at h
          simp only [cond_true] at h
          simp only [Bool.and_eq_true] at hc
          obtain ⟨⟨⟨c1, c2⟩, c3⟩, c4⟩ := hc
          split at h
          · rename_i x0 hx0
            simp only [Option.some.injEq, Prod.mk.injEq, MR.new.injEq] at h
            obtain ⟨⟨rfl, rfl⟩, rfl⟩ := h
            rw [andE_den, andE_den] at hg
            obtain ⟨g1, g2⟩ := andB hg
            obtain ⟨g2, g3⟩ := andB g2
            have g2 := leE_den g2
            have g3 := leE_den g3
            rw [mulL_den] at g3
            have hb0 : 0 < bb := by simpa using c4
            have g2 : (0 : Int) ≤ (L.den : Int) := g2
            have g3 : (bb : Int) * (L.den : Int) ≤ 281474976710656 := g3
            have g4 : (L.den : Int) ≤ 9223372036854775807 := le_of_mul hb0 g2 g3
            have hzl : (Z.cells.toList.map avOf).length = sz := Nat.eq_of_beq_eq_true c2
            have hcell := exA_ok (m := m) (H := lst.blk) hx0
            rw [zeroS_enc] at hcell
            have hsz : rt.size = sz := by rw [← rt.cells_length true x0.den, hcell.len, hzl]
            refine ⟨.row sz (List.replicate (L.den : Int).toNat (Z.cells.toList.map avOf)) e, fun kk hm => ?_, ?_, (fun h => by cases h), (fun q pB pR hB hR _ => by
              refine List.all_eq_true.2 fun row hr => ?_
              rw [(List.mem_replicate.1 hr).2, ← zeroS_enc (m := m) (H := lst.blk)]
              exact encL_nmd hB hR _ (exA_refs hx0)), fun _ => ⟨_, _, _, _, _, rfl, by rw [hsz], by
              rw [List.length_replicate]
              show _ = (List.replicate _ _).length
              rw [List.length_replicate]⟩⟩
            · have ey : (lst.enc m kk).ev y = .int k L.den := by rw [enc_ev, hy, SV.enc]
              have ez : (lst.enc m kk).ev z = .int k' Cc.den := by rw [enc_ev, hz, SV.enc]
              have hCL : (Cc.den : Int) = (L.den : Int) := by
                cases hso : sameOp y z with
                | true => exact sameOp_eq hso ey ez
                | false => rw [hso] at g1; exact eqE_den g1
              exact opN_make (allP_at hT.und hu) (allP_at hT.inf hI) hzl (by simpa using c3) c1 ey (by rw [ez, hCL]) g2 g3 g4 hd
            · subst hsz
              refine .rows ⟨?_, fun i row row' h1 h2 => ?_⟩
              · show (List.map _ (List.replicate _ _)).length = _
                rw [List.length_map, List.length_replicate, List.length_replicate]
              · have h1 : ((List.replicate (L.den : Int).toNat x0.den).map (rt.cells true))[i]? = some row := h1
                rw [List.getElem?_map, List.getElem?_replicate] at h1
                rw [List.getElem?_replicate] at h2
                split at h1
                · rename_i hi
                  rw [if_pos hi] at h2
                  simp only [Option.map_some, Option.some.injEq] at h1 h2
                  subst h1; subst h2
                  exact hcell
                · cases h1
          · cases h
      · cases h
    · cases h
  · rename_i t L parts
    unfold litS at h
    split at h
    · rename_i e hu
      split at h
      · rename_i Z sz bb rt hI hty
        cases hc : (allOne (Z.cells.toList.map avOf) && Nat.beq (Z.cells.toList.map avOf).length sz && Nat.blt 0 sz && Nat.ble (L * sz) 16777216 && Nat.beq rt.size sz) with
        | false => rw [hc] at h; cases h
        | true =>
          rw [hc] at h
          simp only [cond_true] at h
          simp only [Bool.and_eq_true] at hc
          obtain ⟨⟨⟨⟨c1, c2⟩, c3⟩, c4⟩, c5⟩ := hc
          split at h
          · rename_i out hf'
            cases ho : Nat.beq out.length (L * sz) with
            | false => rw [ho] at h; cases h
            | true =>
              rw [ho] at h
              simp only [cond_true] at h
              have hf' := fillS_enc (m := m) hf'
              rw [zerosS_enc, zeroS_enc] at hf'
              have hsz := Nat.eq_of_beq_eq_true c5
              have fin : ∀ fr xs, exRows fr rt (chunkS sz L out) = some xs → b = .row fr rt xs e 0 → row = true → ∃ b', NewOk P n ⟨d, .buildSlice t L parts, ty, ps, af, gg⟩ lst m b row b' := by
                intro fr xs hx eb er
                subst eb; subst er
                have hch := chunkS_at (m := m) (H := lst.blk) hx
                refine ⟨.row sz (chunk sz L (SV.encL m lst.blk out)) e, fun kk hm => ?_, ?_, (fun h => by cases h), (fun q pB pR hB hR _ => by
                  refine List.all_eq_true.2 fun row hr => ?_
                  rw [chunkS_enc] at hr
                  obtain ⟨r0, h1, rfl⟩ := List.mem_map.1 hr
                  exact encL_nmd hB hR _ (exRows_refs hx r0 h1)), fun _ => ⟨_, _, _, _, _, rfl, by rw [hsz], ?_⟩⟩
                · have hf2 := hf'
                  rw [← evPartsS_enc (nx := kk)] at hf2
                  exact opN_lit (allP_at hT.und hu) (allP_at hT.inf hI) c1 (Nat.eq_of_beq_eq_true c2) (by simpa using c3) c4 hf2 (by rw [encL_length]; exact Nat.eq_of_beq_eq_true ho) hd
                · subst hsz
                  exact .rows hch
                · have := hch.len
                  rw [List.length_map] at this
                  exact this.symm
              unfold litRow at h
              split at h
              · rename_i xs hx
                simp only [Option.some.injEq, Prod.mk.injEq, MR.new.injEq] at h
                exact fin _ _ hx h.1.1.symm h.1.2.symm
              · split at h
                · rename_i xs hx
                  simp only [Option.some.injEq, Prod.mk.injEq, MR.new.injEq] at h
                  exact fin _ _ hx h.1.1.symm h.1.2.symm
                · cases h
          · cases h
      · cases h
    · cases h
  · unfold isNew at hn
    cases hn
  · cases h
/-- a new block, its number laid out already -/
theorem hnew_fix {nx : Nat} {b : SB D} {b' : AB} {s : ASt} (hm : MOk m nx st) (hl : LeS (st.enc m nx) s) (hf : FrOk m st.blk st.fr F) (hmx : m st.nx = nx) (hbd : b ≠ .dead) (hr : st.refs (nB st) (nR st) = true) (hb : LesB (b.enc m (st.hnew b).blk) b') :
    MOk m (nx + 1) (st.hnew b) ∧ LeS ((st.hnew b).enc m (nx + 1)) (s.hnew b') ∧ FrOk m (st.hnew b).blk (st.hnew b).fr F := by
  have hnx : nx = s.nx := hl.nx
  have hc : MemLe m st.blk m (st.hnew b).blk (nB st) (nR st) := by
    have hne : ∀ id, (!Nat.beq id st.nx) = true → id ≠ st.nx := by
      intro id h e
      subst e
      have h : (!Nat.beq st.nx st.nx) = true := h
      rw [Nat.beq_refl] at h; cases h
    refine ⟨fun id h => .inr ⟨?_, rfl⟩, fun id v h => .inr ⟨?_, rfl⟩⟩
    · unfold isBox; rw [hnew_blk, if_neg (Ne.symm (hne id h))]
    · unfold rowLen; rw [hnew_blk, if_neg (Ne.symm (hne id h))]
  unfold SSt.refs at hr
  simp only [Bool.and_eq_true] at hr
  obtain ⟨r1, r2, r3, r4, r5⟩ := hr
  have hlv : ∀ k, (st.hnew b).blk k ≠ .dead → k ≠ st.nx → st.blk k ≠ .dead := by
    intro k hk e
    rw [hnew_blk, if_neg (Ne.symm e)] at hk; exact hk
  refine ⟨⟨fun k hk => ?_, fun k k' hk hk' e => ?_, fun p hp => ?_⟩, ⟨fun d => ?_, fun k => ?_, ?_⟩, hf.les' hc r5⟩
  · by_cases e : k = st.nx
    · rw [e, hmx]; omega
    · have := hm.lt k (hlv k hk e); omega
  · by_cases e1 : k = st.nx
    · by_cases e2 : k' = st.nx
      · omega
      · rw [e1, hmx] at e
        have := hm.lt k' (hlv k' hk' e2)
        omega
    · by_cases e2 : k' = st.nx
      · rw [e2, hmx] at e
        have := hm.lt k (hlv k hk e1)
        omega
      · exact hm.inj k k' (hlv k hk e1) (hlv k' hk' e2) e
  · show p.1 < st.nx + 1 ∧ p.2 ≠ .dead
    rcases List.mem_cons.1 hp with rfl | hp
    · exact ⟨Nat.lt_succ_self _, hbd⟩
    · have := hm.keys p hp; exact ⟨by omega, this.2⟩
  · show Les (look .any (encR m (st.hnew b).blk (st.regs ++ st.kp)) d) _
    exact (encR_les hc _ (by rw [refsR_append, r1, r2]; rfl) d).trans (hl.regs d)
  · show LesB (look .dead ((m st.nx, b.enc m (st.hnew b).blk) :: encH m (st.hnew b).blk (st.heap ++ st.hk)) k) (look .dead ((s.nx, b') :: s.heap) k)
    rw [look_cons, look_cons, hmx.trans hnx]
    split
    · exact hb
    · exact (encH_les hc _ (by rw [refsH_append, r3, r4]; rfl) (fun _ _ => rfl) k).trans (hl.heap k)
  · show nx + 1 = s.nx + 1; omega
theorem newW_m (hL : Lay m nx0 b0 st0) (hws : ∀ p ∈ ws, Good b0 st0 p.2) (hge : b0 ≤ st.nx) (h : Dr.newW T ws i st.nx = true) : Dr.newW T (mapP m ws) i (nxOf nx0 b0 st) = true := by
  have e : nxOf nx0 b0 st = m st.nx := (hL.new _ hge).symm
  rw [e]
  unfold Dr.newW mapP at *
  rw [List.all_map]
  refine List.all_eq_true.2 fun p hp => ?_
  have := List.all_eq_true.1 h p hp
  show (bif Nat.beq (m p.2) (m st.nx) then _ else true) = true
  rw [beq_m hL (hws p hp) (.inl hge)]
  exact this
theorem newR_ok (hC : C.ok P) (hL : Lay m nx0 b0 st0) (hws : ∀ p ∈ ws, Good b0 st0 p.2) (hc : ∀ p ∈ cr, b0 ≤ p.2) (hI : RI F m nx0 b0 st0 st) (hd : dok o.dst n = true) (hnw : isNew o.op = true)
    (hg : o.guard = none ∨ gst ops o (Dr.lcl ops T (mapP m ws) nx0 i (mapP m cr) (st.enc m (nxOf nx0 b0 st)) o 0) = some true)
    {K : List (Nat × Nat) → SSt D → G D (KD ρ) ρ} (h : (newR C T ws b0 i cr (lclS ops T ws b0 i cr st o) st o K).den fu = some r)
    (k : ∀ cr' st', RI F m nx0 b0 st0 st' → (∀ p ∈ cr', b0 ≤ p.2) → (K cr' st').den fu = some r → AGm P n ops T ws nx0 b0 m Kt (i + 1) cr' l st') : AGm P n ops T ws nx0 b0 m Kt i cr (o :: l) st := by
  unfold newR at h
  split at h
  · rename_i b row g hmem
    cases hb : (Dr.noW ws i && Dr.newW T ws i st.nx && b.refs (fun k => visS T ws b0 i cr k && !Nat.beq k st.nx) (fun k _ => visS T ws b0 i cr k && !Nat.beq k st.nx) && st.refs (fun id => !Nat.beq id st.nx) (fun id _ => !Nat.beq id st.nx)) with
    | false => rw [hb] at h; cases h
    | true =>
      rw [hb] at h
      simp only [cond_true] at h
      simp only [Bool.and_eq_true] at hb
      obtain ⟨⟨⟨b1, b2⟩, b3⟩, b4⟩ := hb
      obtain ⟨hgd, h⟩ := grdG_den h
      obtain ⟨b', hN⟩ := new_ok (m := m) hC.T hnw hmem hgd hd
      have hop : ∀ k, OpN P n o (Dr.lcl ops T (mapP m ws) nx0 i (mapP m cr) (st.enc m (nxOf nx0 b0 st)) o k) b' := fun k => ⟨hd, fun K a w G r => by
        have hk := lt_of_rel hL hws hc hI.good hI.mok r
        have hm := lclS_mok (ops := ops) (T := T) (ws := ws) (b0 := b0) (i := i) (cr := cr) (o := o) hI.mok hk
        exact (hN.op k hm).out K a w G (r.les (lclS_les hL hws hc hI.good hI.mok hk))⟩
      have hmx : m st.nx = nxOf nx0 b0 st := hL.new _ hI.ge
      have hmem2 : MemLe m (lclS ops T ws b0 i cr st o).blk m (st.hnew b).blk (fun k => visS T ws b0 i cr k && !Nat.beq k st.nx) (fun k _ => visS T ws b0 i cr k && !Nat.beq k st.nx) := by
        have e : ∀ k, (visS T ws b0 i cr k && !Nat.beq k st.nx) = true → (st.hnew b).blk k = (lclS ops T ws b0 i cr st o).blk k := by
          intro k hk
          rw [Bool.and_eq_true] at hk
          have hne : st.nx ≠ k := fun e => by
            subst e
            have := hk.2
            rw [Nat.beq_refl] at this; cases this
          rw [hnew_blk, if_neg hne, lclS_blk, hk.1]; rfl
        exact ⟨fun id h => .inr ⟨by unfold isBox; rw [e id h], rfl⟩, fun id v h => .inr ⟨by unfold rowLen; rw [e id h], rfl⟩⟩
      have hbd : b ≠ .dead := by
        intro e
        subst e
        cases row with
        | true => obtain ⟨_, _, _, _, _, h1, _⟩ := hN.rw rfl; cases h1
        | false => obtain ⟨_, _, _, h1, _⟩ := hN.box rfl; cases h1
      have hset := hnew_fix (b := b) (b' := b') hI.mok (.refl _) hI.fr hmx hbd b4 ((encB_les hmem2 b b3).trans hN.les)
      have hnx' : nxOf nx0 b0 (st.hnew b) = nxOf nx0 b0 st + 1 := by
        have := hI.ge
        show nx0 + (st.nx + 1 - b0) = nx0 + (st.nx - b0) + 1
        omega
      have hRI : RI F m nx0 b0 st0 (st.hnew b) := ⟨by rw [hnx']; exact hset.1, by show b0 ≤ st.nx + 1; have := hI.ge; omega, hset.2.2, hI.fix.trans ⟨rfl, rfl, rfl⟩, fun k hk => by
        rw [hnew_blk] at hk
        by_cases e' : st.nx = k
        · exact .inl (by have := hI.ge; omega)
        · rw [if_neg e'] at hk; exact hI.good k hk⟩
      have hnm : b'.nmd (vis T nx0 i (mapP m cr)) = true := by
        have key : ∀ id, (visS T ws b0 i cr id && !Nat.beq id st.nx) = true → (lclS ops T ws b0 i cr st o).blk id ≠ .dead → vis T nx0 i (mapP m cr) (m id) = true := by
          intro id hv hbl
          rw [Bool.and_eq_true] at hv
          rw [lclS_blk, hv.1] at hbl
          exact liveS hL hc hI hv.1 hbl
        refine hN.nmd _ _ _ (fun id hp hbl => key id hp fun e => ?_) (fun id v n hp hbl => key id hp fun e => ?_) b3
        · unfold isBox at hbl; rw [e] at hbl; cases hbl
        · unfold rowLen at hbl; rw [e] at hbl; cases hbl
      have hcr : ∀ p ∈ (i, st.nx) :: cr, b0 ≤ p.2 := fun p hp => by
        rcases List.mem_cons.1 hp with rfl | hp
        · exact hI.ge
        · exact hc p hp
      have hst : Dr.AG P n ops T (mapP m ws) nx0 Kt (i + 1) (mapP m ((i, st.nx) :: cr)) l (((st.enc m (nxOf nx0 b0 st)).hnew b').put o.dst (refB b' (st.enc m (nxOf nx0 b0 st)).nx)) := by
        refine .le ?_ (k _ _ (by rw [MR.app]; exact hRI.put _ _) hcr h)
        have e : nxOf nx0 b0 (MR.app st o.dst (.new b row)) = nxOf nx0 b0 st + 1 := by
          rw [MR.app, ← hnx']
          cases o.dst <;> rfl
        rw [e, MR.app, put_enc]
        refine hset.2.1.put ?_
        cases row with
        | true =>
          obtain ⟨fr, rt, xs, e1, rows, h1, h2, h3⟩ := hN.rw rfl
          subst h1; subst h2
          have hi : rowLen (st.hnew (.row fr rt xs e1 0)).blk st.nx 0 = some (List.length xs.den) := by unfold rowLen; rw [hnew_blk, if_pos rfl]; rfl
          show Les (SV.enc m _ (.osl st.nx 0)) (.osl (nxOf nx0 b0 st) rows.length)
          rw [SV.enc, hi, hmx, h3]
          exact .refl _
        | false =>
          obtain ⟨cs, e1, cs', h1, h2⟩ := hN.box rfl
          subst h1; subst h2
          have hi : isBox (st.hnew (.box cs e1)).blk st.nx = true := by unfold isBox; rw [hnew_blk, if_pos rfl]
          show Les (SV.enc m _ (.box st.nx 0)) (.box (nxOf nx0 b0 st) 0)
          rw [SV.enc, hi, hmx]
          exact .refl _
      have e2 : mapP m ((i, st.nx) :: cr) = (i, (st.enc m (nxOf nx0 b0 st)).nx) :: mapP m cr := by
        show (i, m st.nx) :: mapP m cr = _
        rw [hmx]; rfl
      rw [e2] at hst
      exact .step (.new (by rw [noW_m]; exact b1) (newW_m hL hws hI.ge b2) hg hop hnm) hst
  · cases h
theorem stepR_ok' (hC : C.ok P) (hL : Lay m nx0 b0 st0) (hws : ∀ p ∈ ws, Good b0 st0 p.2) (hc : ∀ p ∈ cr, b0 ≤ p.2) (hI : RI F m nx0 b0 st0 st) (hd : dok o.dst n = true)
    (hg : o.guard = none ∨ gst ops o (Dr.lcl ops T (mapP m ws) nx0 i (mapP m cr) (st.enc m (nxOf nx0 b0 st)) o 0) = some true)
    {K : List (Nat × Nat) → SSt D → G D (KD ρ) ρ} (h : (stepR' C T ws b0 i cr (lclS ops T ws b0 i cr st o) st o K).den fu = some r)
    (k : ∀ cr' st', RI F m nx0 b0 st0 st' → (∀ p ∈ cr', b0 ≤ p.2) → (K cr' st').den fu = some r → AGm P n ops T ws nx0 b0 m Kt (i + 1) cr' l st') : AGm P n ops T ws nx0 b0 m Kt i cr (o :: l) st := by
  unfold stepR' at h
  split at h
  · rename_i x g hx
    cases hb : (Dr.noW ws i && x.refs (visS T ws b0 i cr) (fun k _ => visS T ws b0 i cr k)) with
    | false => rw [hb] at h; cases h
    | true =>
      rw [hb] at h
      rw [Bool.and_eq_true] at hb
      simp only [cond_true] at h
      obtain ⟨hgd, h⟩ := grdG_den h
      have hop : ∀ k, OpR P n o (Dr.lcl ops T (mapP m ws) nx0 i (mapP m cr) (st.enc m (nxOf nx0 b0 st)) o k) (x.enc m (lclS ops T ws b0 i cr st o).blk) := fun k => ⟨hd, fun K a w G r => by
        have hk := lt_of_rel hL hws hc hI.good hI.mok r
        have hm := lclS_mok (ops := ops) (T := T) (ws := ws) (b0 := b0) (i := i) (cr := cr) (o := o) hI.mok hk
        exact (OpR.le (lclS_les hL hws hc hI.good hI.mok hk) (rd_ok (n := n) hC.T hm hx hgd hd)).out K a w G r⟩
      have hnm := nmdS (ops := ops) (o := o) hL hc hI hb.2
      have hles : Les (x.enc m st.blk) (x.enc m (lclS ops T ws b0 i cr st o).blk) := enc_les lclS_memS x hb.2
      cases hl : lets o.op with
      | true =>
        rw [hl] at h
        simp only [cond_true] at h
        obtain ⟨y, hy, h⟩ := letV_den h
        exact .step (.read (by rw [noW_m]; exact hb.1) hg hop hnm) (AGm.put (by rw [hy]; exact hles) (k cr _ (hI.put _ _) hc h))
      | false =>
        rw [hl] at h
        exact .step (.read (by rw [noW_m]; exact hb.1) hg hop hnm) (AGm.put hles (k cr _ (hI.put _ _) hc h))
  · cases hnw : isNew o.op with
    | true =>
      rw [hnw] at h
      exact newR_ok hC hL hws hc hI hd hnw hg h k
    | false =>
    rw [hnw] at h
    simp only [cond_false] at h
    cases hb : Dr.noW ws i with
    | false =>
      rw [hb] at h
      exact writeR_ok hC hL hws hc hI hg h k
    | true =>
      rw [hb] at h
      simp only [cond_true] at h
      obtain ⟨d, op, ty, ps, af, gg⟩ := o
      have hd : dok d n = true := hd
      simp only at h
      unfold callR at h
      split at h
      · rename_i cal args ats _
        split at h
        · rename_i Fn caps hcal
          split at h
          · rename_i hF
            have hcal' := allP_at hC.cas hF
            split at h
            · rename_i c hctr
              split at h
              · rename_i e hargs
                rw [G.den] at h
                unfold bindO at h
                split at h
                · rename_i y hy
                  have hAF := allP_at hC.ctrs hctr fu e.den y hy
                  have hop : ∀ k, OpF P n ⟨d, .call ⟨.value cal, args, ats⟩, ty, ps, af, gg⟩ (Dr.lcl ops T (mapP m ws) nx0 i (mapP m cr) (st.enc m (nxOf nx0 b0 st)) ⟨d, .call ⟨.value cal, args, ats⟩, ty, ps, af, gg⟩ k) (oneOf (c.r.avs true y)) := fun k => ⟨hd, fun K a w G r => by
                    have hk := lt_of_rel hL hws hc hI.good hI.mok r
                    have hm := lclS_mok (ops := ops) (T := T) (ws := ws) (b0 := b0) (i := i) (cr := cr) (o := ⟨d, .call ⟨.value cal, args, ats⟩, ty, ps, af, gg⟩) hI.mok hk
                    have hc' : ((lclS ops T ws b0 i cr st ⟨d, .call ⟨.value cal, args, ats⟩, ty, ps, af, gg⟩).enc m k).ev cal = .fn Fn (SV.encL m (lclS ops T ws b0 i cr st ⟨d, .call ⟨.value cal, args, ats⟩, ty, ps, af, gg⟩).blk caps) := by rw [enc_ev, hcal, SV.enc]
                    exact (OpF.le (lclS_les hL hws hc hI.good hI.mok hk) (OpF.of hc' (evS_append _ args.toList caps) hcal' hd hAF (exArgs_ok hm _ _ _ hargs))).out K a w G r⟩
                  refine .step (.call (by rw [noW_m]; exact hb) hg hop ?_) (AGm.put ?_ (k cr _ (hI.put _ _) hc h))
                  · have e1 : (oneOfS (svsE true c.r (.var y : E D c.r))).enc m (fun _ => SB.dead) = oneOf (c.r.avs true y) := by rw [oneOfS_enc, svsE_enc]; rfl
                    rw [← e1]
                    exact enc_nmd (pB := fun _ => false) (pR := fun _ _ => false) (fun id h => by cases h) (fun id v n h => by cases h) _ (one_nmd (datas_nmd c.r _))
                  · rw [oneOfS_enc, svsE_enc]; exact .refl _
                · cases h
              · cases h
            · cases h
          · cases h
        · cases h
      · cases h
theorem sR_ok (hC : C.ok P) (hL : Lay m nx0 b0 st0) (hws : ∀ p ∈ ws, Good b0 st0 p.2) {K : SSt D → G D (KD ρ) ρ} (hK : ∀ st', RI F m nx0 b0 st0 st' → (K st').den fu = some r → Kt (st'.enc m (nxOf nx0 b0 st'))) : ∀ (l : List Oper) (i : Nat) (cr : List (Nat × Nat)) (st : SSt D), (sR C n ops T ws b0 K i cr l st).den fu = some r → RI F m nx0 b0 st0 st → (∀ p ∈ cr, b0 ≤ p.2) →
    AGm P n ops T ws nx0 b0 m Kt i cr l st
  | [], i, cr, st, h, hI, hc => .nil (hK st hI h)
  | o :: l, i, cr, st, h, hI, hc => by
    rw [sR] at h
    cases hd : dok o.dst n with
    | false => rw [hd] at h; cases h
    | true =>
      rw [hd] at h
      simp only [cond_true] at h
      have ihr : ∀ cr' st', RI F m nx0 b0 st0 st' → (∀ p ∈ cr', b0 ≤ p.2) → (sR C n ops T ws b0 K (i + 1) cr' l st').den fu = some r → AGm P n ops T ws nx0 b0 m Kt (i + 1) cr' l st' :=
        fun cr' st' h1 h2 h3 => sR_ok hC hL hws hK l (i + 1) cr' st' h3 h1 h2
      have sk : ∀ st1, RI F m nx0 b0 st0 st1 → gst ops o (Dr.lcl ops T (mapP m ws) nx0 i (mapP m cr) (st1.enc m (nxOf nx0 b0 st1)) o 0) = some false → (bif Dr.noW ws i then sR C n ops T ws b0 K (i + 1) cr l (st1.put o.dst .und) else .fail).den fu = some r → AGm P n ops T ws nx0 b0 m Kt i cr (o :: l) st1 := by
        intro st1 hI hg h
        cases hb : Dr.noW ws i with
        | false => rw [hb] at h; cases h
        | true =>
          rw [hb] at h
          exact skipR_ok hd hb hg (ihr cr _ (hI.put _ _) hc h)
      split at h
      · rename_i hw
        exact stepR_ok' hC hL hws hc hI hd (gst_yesS hw) h ihr
      · rename_i hw
        exact sk st hI (gst_noS hw) h
      · rename_i c d want hw
        obtain ⟨hg, hx⟩ := wantS_ask hw
        rw [G.den] at h
        have know : ∀ b, c.den = b → AGm P n ops T ws nx0 b0 m Kt i cr (o :: l) (st.put (some d) (.bool (.bL b))) → AGm P n ops T ws nx0 b0 m Kt i cr (o :: l) st := by
          intro b hb k
          refine .le ?_ k
          have e : nxOf nx0 b0 (st.put (some d) (.bool (.bL b))) = nxOf nx0 b0 st := rfl
          rw [e, put_enc]
          refine ⟨fun k => ?_, fun k => .refl _, rfl⟩
          show Les (look .any ((d, SV.enc m st.blk (.bool (.bL b))) :: (st.enc m (nxOf nx0 b0 st)).regs) k) _
          rw [look_cons]
          split
          · rename_i e
            subst e
            rw [enc_get, hx, SV.enc, SV.enc]
            exact .of (congrArg AV.bool hb.symm)
          · exact .refl _
        cases hcd : (c.den : Bool) with
        | true =>
          rw [hcd] at h
          simp only [cond_true] at h
          refine know true hcd ?_
          cases want with
          | true => exact stepR_ok' hC hL hws hc (hI.put _ _) hd (.inr (gst_put hg)) h ihr
          | false => exact sk _ (hI.put _ _) (gst_put hg) h
        | false =>
          rw [hcd] at h
          simp only [cond_false] at h
          refine know false hcd ?_
          cases want with
          | true => exact sk _ (hI.put _ _) (gst_put hg) h
          | false => exact stepR_ok' hC hL hws hc (hI.put _ _) hd (.inr (gst_put hg)) h ihr
      · cases h
theorem drR_ok (hC : C.ok P) {self : SelfG D (KD ρ) ρ} (hS : SelfOkG P fu self) : DrawOk (ρ := ρ) P fu n (drR C self) := by
  intro an l st K r F s id h hs
  unfold drR at h
  generalize wsD C.T 0 (l.take (tailN (ancs l []) l.length)) st = ws at h
  unfold drW at h
  cases hb : (Dr.planR l (ancs l []) && (ws.all fun p => isLive (st.blk p.2) || Nat.ble st.nx p.2) && Dr.tailR l (ancs l []) (tailN (ancs l []) l.length)) with
  | false => rw [hb] at h; cases h
  | true =>
    rw [hb] at h
    rw [Bool.and_eq_true, Bool.and_eq_true] at hb
    simp only [cond_true] at h
    obtain ⟨m0, nx0, hm, hr, hf⟩ := hs
    let m : Nat → Nat := fun k => if k < st.nx then m0 k else nx0 + (k - st.nx)
    have hlv : ∀ k, st.blk k ≠ .dead → k < st.nx := fun k hk => hm.live hk
    have hmk : ∀ k, k < st.nx → m k = m0 k := fun k hk => if_pos hk
    have hmn : ∀ k, st.nx ≤ k → m k = nx0 + (k - st.nx) := fun k hk => if_neg (by omega)
    have hmem : MemLe m0 st.blk m st.blk (fun _ => true) (fun _ _ => true) := by
      refine ⟨fun id _ => ?_, fun id v _ => ?_⟩
      · by_cases e : st.blk id = .dead
        · left; unfold isBox; rw [e]
        · exact .inr ⟨rfl, hmk id (hlv id e)⟩
      · by_cases e : st.blk id = .dead
        · left; unfold rowLen; rw [e]
        · exact .inr ⟨rfl, hmk id (hlv id e)⟩
    have hall := refs_all st
    unfold SSt.refs at hall
    simp only [Bool.and_eq_true] at hall
    obtain ⟨r1, r2, r3, r4, r5⟩ := hall
    have hmok : MOk m nx0 st := ⟨fun k hk => by rw [hmk k (hlv k hk)]; exact hm.lt k hk, fun k k' hk hk' e => by rw [hmk k (hlv k hk), hmk k' (hlv k' hk')] at e; exact hm.inj k k' hk hk' e, hm.keys⟩
    have hles : LeS (st.enc m nx0) (st.enc m0 nx0) := by
      refine ⟨fun d => ?_, fun k => ?_, rfl⟩
      · exact encR_les hmem (st.regs ++ st.kp) (by rw [refsR_append, r1, r2]; rfl) d
      · exact encH_les hmem (st.heap ++ st.hk) (by rw [refsH_append, r3, r4]; rfl) (fun p hp => hmk p.1 (hm.keys p hp).1) k
    have hL : Lay m nx0 st.nx st := ⟨hmn, fun k hk hb => by rw [hmk k hk]; exact hm.lt k hb, fun k k' h1 h2 e => hmok.inj k k' h1 h2 e, hlv⟩
    have hws : ∀ p ∈ ws, Good st.nx st p.2 := by
      intro p hp
      have := List.all_eq_true.1 hb.1.2 p hp
      rw [Bool.or_eq_true] at this
      rcases this with h | h
      · right
        intro e
        rw [e] at h
        cases h
      · exact .inl (Nat.le_of_ble_eq_true h)
    have hnx : nxOf nx0 st.nx st = nx0 := by unfold nxOf; omega
    have hI : RI F m nx0 st.nx st st := ⟨by rw [hnx]; exact hmok, Nat.le_refl _, hf.les' hmem r5, .refl st, fun k hk => .inr hk⟩
    have := sR_ok (ops := ⟨l⟩) (T := ancs l []) (ws := ws) (Kt := fun s => AL P n l.toArray (PostL F st fun st' => (K st').den fu = some r) (l.drop (tailN (ancs l []) l.length)) s) hC hL hws (fun st' hI' h' => sL_ok hC hS an _ _ st' _ h' ⟨m, _, hI'.mok, .refl _, hI'.fr⟩ hI'.fix) (l.take (tailN (ancs l []) l.length)) 0 [] st h hI (fun p hp => by cases hp)
    unfold AGm at this
    rw [hnx] at this
    exact AW.rle (hr.trans hles.rle) (Dr.AW.drawR (mapP m ws) (tailN (ancs l []) l.length) hC.mixed rfl hb.1.1 hb.2 this)
end
end Go.Proofs.Ytdfocbeejgcglaa
/- Facts on the types and functions that the symbolic walks ask for (printed by a program). -/
namespace Go.Proofs.Ytdfocbeejgcglaa
open Go
def tab : Tab := {
  und := [(0, Go.TypeDesc.tuple #[]),
    (1, Go.TypeDesc.func #[] #[] false),
    (2, Go.TypeDesc.int (Go.IntKind.i64)),
    (3, Go.TypeDesc.int (Go.IntKind.i64)),
    (4, Go.TypeDesc.bool),
    (5, Go.TypeDesc.int (Go.IntKind.u8)),
    (6, Go.TypeDesc.int (Go.IntKind.u8)),
    (7, Go.TypeDesc.struct #[{ name := "x", type := 2, offset := 0, embedded := false, tag := "", pkgPath := "runtime", byteOffset := 0 }, { name := "y", type := 3, offset := 1, embedded := false, tag := "", pkgPath := "runtime", byteOffset := 8 }, { name := "signed", type := 4, offset := 2, embedded := false, tag := "", pkgPath := "runtime", byteOffset := 16 }, { name := "code", type := 6, offset := 3, embedded := false, tag := "", pkgPath := "runtime", byteOffset := 17 }]),
    (8, Go.TypeDesc.struct #[{ name := "x", type := 2, offset := 0, embedded := false, tag := "", pkgPath := "runtime", byteOffset := 0 }, { name := "y", type := 3, offset := 1, embedded := false, tag := "", pkgPath := "runtime", byteOffset := 8 }, { name := "signed", type := 4, offset := 2, embedded := false, tag := "", pkgPath := "runtime", byteOffset := 16 }, { name := "code", type := 6, offset := 3, embedded := false, tag := "", pkgPath := "runtime", byteOffset := 17 }]),
    (9, Go.TypeDesc.string),
    (10, Go.TypeDesc.string),
    (11, Go.TypeDesc.string),
    (12, Go.TypeDesc.int (Go.IntKind.u64)),
    (13, Go.TypeDesc.struct #[{ name := "msg", type := 9, offset := 0, embedded := false, tag := "", pkgPath := "runtime", byteOffset := 0 }, { name := "addr", type := 12, offset := 1, embedded := false, tag := "", pkgPath := "runtime", byteOffset := 16 }]),
    (14, Go.TypeDesc.struct #[{ name := "msg", type := 9, offset := 0, embedded := false, tag := "", pkgPath := "runtime", byteOffset := 0 }, { name := "addr", type := 12, offset := 1, embedded := false, tag := "", pkgPath := "runtime", byteOffset := 16 }]),
    (15, Go.TypeDesc.pointer 122),
    (16, Go.TypeDesc.pointer 125),
    (17, Go.TypeDesc.pointer 135),
    (18, Go.TypeDesc.struct #[{ name := "typ", type := 17, offset := 0, embedded := false, tag := "", pkgPath := "internal/runtime/maps", byteOffset := 0 }]),
    (19, Go.TypeDesc.struct #[{ name := "typ", type := 17, offset := 0, embedded := false, tag := "", pkgPath := "internal/runtime/maps", byteOffset := 0 }]),
    (20, Go.TypeDesc.interface #[]),
    (21, Go.TypeDesc.int (Go.IntKind.i32)),
    (22, Go.TypeDesc.struct #[{ name := "X", type := 3, offset := 0, embedded := false, tag := "", pkgPath := "", byteOffset := 0 }, { name := "Y", type := 3, offset := 1, embedded := false, tag := "", pkgPath := "", byteOffset := 8 }, { name := "Z", type := 3, offset := 2, embedded := false, tag := "", pkgPath := "", byteOffset := 16 }]),
    (23, Go.TypeDesc.struct #[{ name := "X", type := 3, offset := 0, embedded := false, tag := "", pkgPath := "", byteOffset := 0 }, { name := "Y", type := 3, offset := 1, embedded := false, tag := "", pkgPath := "", byteOffset := 8 }, { name := "Z", type := 3, offset := 2, embedded := false, tag := "", pkgPath := "", byteOffset := 16 }]),
    (24, Go.TypeDesc.func #[] #[4] false),
    (25, Go.TypeDesc.struct #[{ name := "L", type := 3, offset := 0, embedded := false, tag := "", pkgPath := "", byteOffset := 0 }, { name := "A", type := 3, offset := 1, embedded := false, tag := "", pkgPath := "", byteOffset := 8 }, { name := "B", type := 3, offset := 2, embedded := false, tag := "", pkgPath := "", byteOffset := 16 }]),
    (26, Go.TypeDesc.struct #[{ name := "L", type := 3, offset := 0, embedded := false, tag := "", pkgPath := "", byteOffset := 0 }, { name := "A", type := 3, offset := 1, embedded := false, tag := "", pkgPath := "", byteOffset := 8 }, { name := "B", type := 3, offset := 2, embedded := false, tag := "", pkgPath := "", byteOffset := 16 }]),
    (27, Go.TypeDesc.int (Go.IntKind.i64)),
    (28, Go.TypeDesc.tuple #[26, 27]),
    (29, Go.TypeDesc.func #[23, 23] #[26, 27] false),
    (30, Go.TypeDesc.tuple #[3, 27]),
    (31, Go.TypeDesc.func #[3, 3] #[3, 27] false),
    (32, Go.TypeDesc.func #[23, 3, 3] #[27] false),
    (33, Go.TypeDesc.func #[23] #[27] false),
    (34, Go.TypeDesc.func #[3, 3, 3] #[4] false),
    (35, Go.TypeDesc.func #[4, 27, 27] #[4] false),
    (36, Go.TypeDesc.func #[3, 3] #[3] false),
    (37, Go.TypeDesc.tuple #[26, 4]),
    (38, Go.TypeDesc.func #[23, 23] #[26, 4] false),
    (39, Go.TypeDesc.func #[23, 23] #[4] false),
    (40, Go.TypeDesc.tuple #[23, 27]),
    (41, Go.TypeDesc.func #[26, 23] #[23, 27] false),
    (42, Go.TypeDesc.func #[26] #[27] false),
    (43, Go.TypeDesc.func #[26, 23] #[4] false),
    (44, Go.TypeDesc.func #[26, 26] #[3, 27] false),
    (45, Go.TypeDesc.func #[26, 26, 3, 3] #[26, 27] false),
    (46, Go.TypeDesc.func #[26, 26] #[3] false),
    (47, Go.TypeDesc.func #[26, 26, 3, 3] #[26] false),
    (48, Go.TypeDesc.func #[26, 26, 3, 3] #[4] false),
    (49, Go.TypeDesc.slice 56),
    (50, Go.TypeDesc.func #[49] #[27] false),
    (51, Go.TypeDesc.slice 104),
    (52, Go.TypeDesc.struct #[{ name := "Points", type := 51, offset := 0, embedded := false, tag := "", pkgPath := "", byteOffset := 0 }]),
    (53, Go.TypeDesc.struct #[{ name := "Points", type := 51, offset := 0, embedded := false, tag := "", pkgPath := "", byteOffset := 0 }]),
    (54, Go.TypeDesc.slice 3),
    (55, Go.TypeDesc.struct #[{ name := "Name", type := 9, offset := 0, embedded := false, tag := "", pkgPath := "", byteOffset := 0 }, { name := "Paper", type := 26, offset := 1, embedded := false, tag := "", pkgPath := "", byteOffset := 16 }, { name := "Solid", type := 26, offset := 4, embedded := false, tag := "", pkgPath := "", byteOffset := 40 }, { name := "Curve", type := 53, offset := 7, embedded := false, tag := "", pkgPath := "", byteOffset := 64 }, { name := "Process", type := 54, offset := 8, embedded := false, tag := "", pkgPath := "", byteOffset := 88 }]),
    (56, Go.TypeDesc.struct #[{ name := "Name", type := 9, offset := 0, embedded := false, tag := "", pkgPath := "", byteOffset := 0 }, { name := "Paper", type := 26, offset := 1, embedded := false, tag := "", pkgPath := "", byteOffset := 16 }, { name := "Solid", type := 26, offset := 4, embedded := false, tag := "", pkgPath := "", byteOffset := 40 }, { name := "Curve", type := 53, offset := 7, embedded := false, tag := "", pkgPath := "", byteOffset := 64 }, { name := "Process", type := 54, offset := 8, embedded := false, tag := "", pkgPath := "", byteOffset := 88 }]),
    (57, Go.TypeDesc.func #[56, 3] #[26, 27] false),
    (58, Go.TypeDesc.tuple #[54, 27]),
    (59, Go.TypeDesc.func #[56, 3] #[54, 27] false),
    (60, Go.TypeDesc.func #[56] #[27] false),
    (61, Go.TypeDesc.func #[53, 3] #[3] false),
    (62, Go.TypeDesc.func #[54, 54] #[4] false),
    (63, Go.TypeDesc.func #[56, 3] #[54] false),
    (64, Go.TypeDesc.func #[49, 3, 3] #[4] false),
    (65, Go.TypeDesc.slice 9),
    (66, Go.TypeDesc.func #[49, 54, 65, 54] #[54, 27] false),
    (67, Go.TypeDesc.func #[54, 3, 3] #[27] false),
    (68, Go.TypeDesc.func #[49, 9] #[3] false),
    (69, Go.TypeDesc.func #[49, 54, 65, 54] #[4] false),
    (70, Go.TypeDesc.tuple #[49, 27]),
    (71, Go.TypeDesc.func #[49, 49] #[49, 27] false),
    (72, Go.TypeDesc.func #[56, 56] #[4] false),
    (73, Go.TypeDesc.func #[49, 49] #[4] false),
    (74, Go.TypeDesc.func #[49, 9] #[3, 27] false),
    (75, Go.TypeDesc.tuple #[3, 3, 27]),
    (76, Go.TypeDesc.func #[49, 26] #[3, 3, 27] false),
    (77, Go.TypeDesc.func #[49, 9, 26] #[4] false),
    (78, Go.TypeDesc.struct #[{ name := "In", type := 3, offset := 0, embedded := false, tag := "", pkgPath := "", byteOffset := 0 }, { name := "Out", type := 3, offset := 1, embedded := false, tag := "", pkgPath := "", byteOffset := 8 }, { name := "Size", type := 3, offset := 2, embedded := false, tag := "", pkgPath := "", byteOffset := 16 }, { name := "Values", type := 54, offset := 3, embedded := false, tag := "", pkgPath := "", byteOffset := 24 }]),
    (79, Go.TypeDesc.struct #[{ name := "In", type := 3, offset := 0, embedded := false, tag := "", pkgPath := "", byteOffset := 0 }, { name := "Out", type := 3, offset := 1, embedded := false, tag := "", pkgPath := "", byteOffset := 8 }, { name := "Size", type := 3, offset := 2, embedded := false, tag := "", pkgPath := "", byteOffset := 16 }, { name := "Values", type := 54, offset := 3, embedded := false, tag := "", pkgPath := "", byteOffset := 24 }]),
    (80, Go.TypeDesc.tuple #[54, 54, 27]),
    (81, Go.TypeDesc.func #[79, 54, 54] #[54, 54, 27] false),
    (82, Go.TypeDesc.func #[79] #[27] false),
    (83, Go.TypeDesc.func #[79, 3] #[54] false),
    (84, Go.TypeDesc.func #[79, 54, 54] #[4] false),
    (85, Go.TypeDesc.func #[79, 54] #[54, 27] false),
    (86, Go.TypeDesc.func #[79] #[3, 27] false),
    (87, Go.TypeDesc.func #[79, 54] #[4] false),
    (88, Go.TypeDesc.func #[79, 54] #[54] false),
    (89, Go.TypeDesc.tuple #[79, 27]),
    (90, Go.TypeDesc.func #[79, 3] #[79, 27] false),
    (91, Go.TypeDesc.func #[3, 3, 3] #[27] false),
    (92, Go.TypeDesc.func #[79, 3, 3] #[4] false),
    (93, Go.TypeDesc.func #[] #[23] false),
    (94, Go.TypeDesc.func #[3, 3, 3] #[3] false),
    (95, Go.TypeDesc.array 3 3),
    (96, Go.TypeDesc.int (Go.IntKind.u64)),
    (97, Go.TypeDesc.func #[] #[56] false),
    (98, Go.TypeDesc.func #[99] #[27] false),
    (99, Go.TypeDesc.pointer 56),
    (100, Go.TypeDesc.func #[99, 3] #[54] false),
    (101, Go.TypeDesc.func #[9] #[4] false),
    (102, Go.TypeDesc.func #[53] #[27] false),
    (103, Go.TypeDesc.struct #[{ name := "X", type := 3, offset := 0, embedded := false, tag := "", pkgPath := "", byteOffset := 0 }, { name := "Y", type := 3, offset := 1, embedded := false, tag := "", pkgPath := "", byteOffset := 8 }]),
    (104, Go.TypeDesc.struct #[{ name := "X", type := 3, offset := 0, embedded := false, tag := "", pkgPath := "", byteOffset := 0 }, { name := "Y", type := 3, offset := 1, embedded := false, tag := "", pkgPath := "", byteOffset := 8 }]),
    (105, Go.TypeDesc.func #[54, 3] #[27] false),
    (106, Go.TypeDesc.func #[56] #[56] false),
    (107, Go.TypeDesc.func #[53, 53] #[4] false),
    (108, Go.TypeDesc.func #[] #[79] false),
    (109, Go.TypeDesc.func #[110, 54] #[27] false),
    (110, Go.TypeDesc.pointer 79),
    (111, Go.TypeDesc.tuple #[54, 54]),
    (112, Go.TypeDesc.func #[110, 54, 54] #[54, 54] false),
    (113, Go.TypeDesc.func #[110, 54] #[3] false),
    (114, Go.TypeDesc.func #[110, 54] #[54] false),
    (115, Go.TypeDesc.func #[3, 3, 3] #[3, 27] false),
    (116, Go.TypeDesc.func #[3, 3, 3, 117] #[79, 27] false),
    (117, Go.TypeDesc.func #[54] #[54, 27] false),
    (118, Go.TypeDesc.func #[] #[53] false),
    (119, Go.TypeDesc.array 4 3),
    (120, Go.TypeDesc.func #[] #[9] false),
    (121, Go.TypeDesc.struct #[{ name := "_interface", type := 17, offset := 0, embedded := false, tag := "", pkgPath := "runtime", byteOffset := 0 }, { name := "concrete", type := 17, offset := 1, embedded := false, tag := "", pkgPath := "runtime", byteOffset := 8 }, { name := "asserted", type := 17, offset := 2, embedded := false, tag := "", pkgPath := "runtime", byteOffset := 16 }, { name := "missingMethod", type := 9, offset := 3, embedded := false, tag := "", pkgPath := "runtime", byteOffset := 24 }]),
    (122, Go.TypeDesc.struct #[{ name := "_interface", type := 17, offset := 0, embedded := false, tag := "", pkgPath := "runtime", byteOffset := 0 }, { name := "concrete", type := 17, offset := 1, embedded := false, tag := "", pkgPath := "runtime", byteOffset := 8 }, { name := "asserted", type := 17, offset := 2, embedded := false, tag := "", pkgPath := "runtime", byteOffset := 16 }, { name := "missingMethod", type := 9, offset := 3, embedded := false, tag := "", pkgPath := "runtime", byteOffset := 24 }]),
    (123, Go.TypeDesc.array 0 16),
    (124, Go.TypeDesc.struct #[{ name := "_", type := 123, offset := 0, embedded := false, tag := "", pkgPath := "runtime", byteOffset := 0 }]),
    (125, Go.TypeDesc.struct #[{ name := "_", type := 123, offset := 0, embedded := false, tag := "", pkgPath := "runtime", byteOffset := 0 }]),
    (126, Go.TypeDesc.func #[] #[3] false),
    (127, Go.TypeDesc.int (Go.IntKind.u32)),
    (128, Go.TypeDesc.int (Go.IntKind.u8)),
    (129, Go.TypeDesc.int (Go.IntKind.u8)),
    (130, Go.TypeDesc.func #[136, 136] #[4] false),
    (131, Go.TypeDesc.pointer 5),
    (132, Go.TypeDesc.int (Go.IntKind.i32)),
    (133, Go.TypeDesc.int (Go.IntKind.i32)),
    (134, Go.TypeDesc.struct #[{ name := "Size_", type := 12, offset := 0, embedded := false, tag := "", pkgPath := "", byteOffset := 0 }, { name := "PtrBytes", type := 12, offset := 1, embedded := false, tag := "", pkgPath := "", byteOffset := 8 }, { name := "Hash", type := 127, offset := 2, embedded := false, tag := "", pkgPath := "", byteOffset := 16 }, { name := "TFlag", type := 128, offset := 3, embedded := false, tag := "", pkgPath := "", byteOffset := 20 }, { name := "Align_", type := 5, offset := 4, embedded := false, tag := "", pkgPath := "", byteOffset := 21 }, { name := "FieldAlign_", type := 5, offset := 5, embedded := false, tag := "", pkgPath := "", byteOffset := 22 }, { name := "Kind_", type := 129, offset := 6, embedded := false, tag := "", pkgPath := "", byteOffset := 23 }, { name := "Equal", type := 130, offset := 7, embedded := false, tag := "", pkgPath := "", byteOffset := 24 }, { name := "GCData", type := 131, offset := 8, embedded := false, tag := "", pkgPath := "", byteOffset := 32 }, { name := "Str", type := 132, offset := 9, embedded := false, tag := "", pkgPath := "", byteOffset := 40 }, { name := "PtrToThis", type := 133, offset := 10, embedded := false, tag := "", pkgPath := "", byteOffset := 44 }]),
    (135, Go.TypeDesc.struct #[{ name := "Size_", type := 12, offset := 0, embedded := false, tag := "", pkgPath := "", byteOffset := 0 }, { name := "PtrBytes", type := 12, offset := 1, embedded := false, tag := "", pkgPath := "", byteOffset := 8 }, { name := "Hash", type := 127, offset := 2, embedded := false, tag := "", pkgPath := "", byteOffset := 16 }, { name := "TFlag", type := 128, offset := 3, embedded := false, tag := "", pkgPath := "", byteOffset := 20 }, { name := "Align_", type := 5, offset := 4, embedded := false, tag := "", pkgPath := "", byteOffset := 21 }, { name := "FieldAlign_", type := 5, offset := 5, embedded := false, tag := "", pkgPath := "", byteOffset := 22 }, { name := "Kind_", type := 129, offset := 6, embedded := false, tag := "", pkgPath := "", byteOffset := 23 }, { name := "Equal", type := 130, offset := 7, embedded := false, tag := "", pkgPath := "", byteOffset := 24 }, { name := "GCData", type := 131, offset := 8, embedded := false, tag := "", pkgPath := "", byteOffset := 32 }, { name := "Str", type := 132, offset := 9, embedded := false, tag := "", pkgPath := "", byteOffset := 40 }, { name := "PtrToThis", type := 133, offset := 10, embedded := false, tag := "", pkgPath := "", byteOffset := 44 }]),
    (136, Go.TypeDesc.unsafePointer)],
  inf := [(1, (some (.nilFunc), 1, 8)),
    (2, (some (.int .i64 0), 1, 8)),
    (3, (some (.int .i64 0), 1, 8)),
    (4, (some (.bool false), 1, 1)),
    (5, (some (.int .u8 0), 1, 1)),
    (6, (some (.int .u8 0), 1, 1)),
    (7, (some (.agg #[.int .i64 0, .int .i64 0, .bool false, .int .u8 0]), 4, 24)),
    (8, (some (.agg #[.int .i64 0, .int .i64 0, .bool false, .int .u8 0]), 4, 24)),
    (9, (some (.string ByteArray.empty), 1, 16)),
    (10, (some (.string ByteArray.empty), 1, 16)),
    (11, (some (.string ByteArray.empty), 1, 16)),
    (12, (some (.int .u64 0), 1, 8)),
    (13, (some (.agg #[.string ByteArray.empty, .int .u64 0]), 2, 24)),
    (14, (some (.agg #[.string ByteArray.empty, .int .u64 0]), 2, 24)),
    (15, (some (.pointer none), 1, 8)),
    (16, (some (.pointer none), 1, 8)),
    (17, (some (.pointer none), 1, 8)),
    (18, (some (.agg #[.pointer none]), 1, 8)),
    (19, (some (.agg #[.pointer none]), 1, 8)),
    (20, (some (.nilIface), 1, 16)),
    (21, (some (.int .i32 0), 1, 4)),
    (22, (some (.agg #[.int .i64 0, .int .i64 0, .int .i64 0]), 3, 24)),
    (23, (some (.agg #[.int .i64 0, .int .i64 0, .int .i64 0]), 3, 24)),
    (24, (some (.nilFunc), 1, 8)),
    (25, (some (.agg #[.int .i64 0, .int .i64 0, .int .i64 0]), 3, 24)),
    (26, (some (.agg #[.int .i64 0, .int .i64 0, .int .i64 0]), 3, 24)),
    (27, (some (.int .i64 0), 1, 8)),
    (29, (some (.nilFunc), 1, 8)),
    (31, (some (.nilFunc), 1, 8)),
    (32, (some (.nilFunc), 1, 8)),
    (33, (some (.nilFunc), 1, 8)),
    (34, (some (.nilFunc), 1, 8)),
    (35, (some (.nilFunc), 1, 8)),
    (36, (some (.nilFunc), 1, 8)),
    (38, (some (.nilFunc), 1, 8)),
    (39, (some (.nilFunc), 1, 8)),
    (41, (some (.nilFunc), 1, 8)),
    (42, (some (.nilFunc), 1, 8)),
    (43, (some (.nilFunc), 1, 8)),
    (44, (some (.nilFunc), 1, 8)),
    (45, (some (.nilFunc), 1, 8)),
    (46, (some (.nilFunc), 1, 8)),
    (47, (some (.nilFunc), 1, 8)),
    (48, (some (.nilFunc), 1, 8)),
    (49, (some (.slice none 0 0), 1, 24)),
    (50, (some (.nilFunc), 1, 8)),
    (51, (some (.slice none 0 0), 1, 24)),
    (52, (some (.agg #[.slice none 0 0]), 1, 24)),
    (53, (some (.agg #[.slice none 0 0]), 1, 24)),
    (54, (some (.slice none 0 0), 1, 24)),
    (55, (some (.agg #[.string ByteArray.empty, .int .i64 0, .int .i64 0, .int .i64 0, .int .i64 0, .int .i64 0, .int .i64 0, .slice none 0 0, .slice none 0 0]), 9, 112)),
    (56, (some (.agg #[.string ByteArray.empty, .int .i64 0, .int .i64 0, .int .i64 0, .int .i64 0, .int .i64 0, .int .i64 0, .slice none 0 0, .slice none 0 0]), 9, 112)),
    (57, (some (.nilFunc), 1, 8)),
    (59, (some (.nilFunc), 1, 8)),
    (60, (some (.nilFunc), 1, 8)),
    (61, (some (.nilFunc), 1, 8)),
    (62, (some (.nilFunc), 1, 8)),
    (63, (some (.nilFunc), 1, 8)),
    (64, (some (.nilFunc), 1, 8)),
    (65, (some (.slice none 0 0), 1, 24)),
    (66, (some (.nilFunc), 1, 8)),
    (67, (some (.nilFunc), 1, 8)),
    (68, (some (.nilFunc), 1, 8)),
    (69, (some (.nilFunc), 1, 8)),
    (71, (some (.nilFunc), 1, 8)),
    (72, (some (.nilFunc), 1, 8)),
    (73, (some (.nilFunc), 1, 8)),
    (74, (some (.nilFunc), 1, 8)),
    (76, (some (.nilFunc), 1, 8)),
    (77, (some (.nilFunc), 1, 8)),
    (78, (some (.agg #[.int .i64 0, .int .i64 0, .int .i64 0, .slice none 0 0]), 4, 48)),
    (79, (some (.agg #[.int .i64 0, .int .i64 0, .int .i64 0, .slice none 0 0]), 4, 48)),
    (81, (some (.nilFunc), 1, 8)),
    (82, (some (.nilFunc), 1, 8)),
    (83, (some (.nilFunc), 1, 8)),
    (84, (some (.nilFunc), 1, 8)),
    (85, (some (.nilFunc), 1, 8)),
    (86, (some (.nilFunc), 1, 8)),
    (87, (some (.nilFunc), 1, 8)),
    (88, (some (.nilFunc), 1, 8)),
    (90, (some (.nilFunc), 1, 8)),
    (91, (some (.nilFunc), 1, 8)),
    (92, (some (.nilFunc), 1, 8)),
    (93, (some (.nilFunc), 1, 8)),
    (94, (some (.nilFunc), 1, 8)),
    (95, (some (.agg #[.int .i64 0, .int .i64 0, .int .i64 0]), 3, 24)),
    (96, (some (.int .u64 0), 1, 8)),
    (97, (some (.nilFunc), 1, 8)),
    (98, (some (.nilFunc), 1, 8)),
    (99, (some (.pointer none), 1, 8)),
    (100, (some (.nilFunc), 1, 8)),
    (101, (some (.nilFunc), 1, 8)),
    (102, (some (.nilFunc), 1, 8)),
    (103, (some (.agg #[.int .i64 0, .int .i64 0]), 2, 16)),
    (104, (some (.agg #[.int .i64 0, .int .i64 0]), 2, 16)),
    (105, (some (.nilFunc), 1, 8)),
    (106, (some (.nilFunc), 1, 8)),
    (107, (some (.nilFunc), 1, 8)),
    (108, (some (.nilFunc), 1, 8)),
    (109, (some (.nilFunc), 1, 8)),
    (110, (some (.pointer none), 1, 8)),
    (112, (some (.nilFunc), 1, 8)),
    (113, (some (.nilFunc), 1, 8)),
    (114, (some (.nilFunc), 1, 8)),
    (115, (some (.nilFunc), 1, 8)),
    (116, (some (.nilFunc), 1, 8)),
    (117, (some (.nilFunc), 1, 8)),
    (118, (some (.nilFunc), 1, 8)),
    (119, (some (.agg #[.int .i64 0, .int .i64 0, .int .i64 0, .int .i64 0]), 4, 32)),
    (120, (some (.nilFunc), 1, 8)),
    (121, (some (.agg #[.pointer none, .pointer none, .pointer none, .string ByteArray.empty]), 4, 40)),
    (122, (some (.agg #[.pointer none, .pointer none, .pointer none, .string ByteArray.empty]), 4, 40)),
    (123, (some (.agg #[]), 0, 0)),
    (124, (some (.agg #[]), 0, 0)),
    (125, (some (.agg #[]), 0, 0)),
    (126, (some (.nilFunc), 1, 8)),
    (127, (some (.int .u32 0), 1, 4)),
    (128, (some (.int .u8 0), 1, 1)),
    (129, (some (.int .u8 0), 1, 1)),
    (130, (some (.nilFunc), 1, 8)),
    (131, (some (.pointer none), 1, 8)),
    (132, (some (.int .i32 0), 1, 4)),
    (133, (some (.int .i32 0), 1, 4)),
    (134, (some (.agg #[.int .u64 0, .int .u64 0, .int .u32 0, .int .u8 0, .int .u8 0, .int .u8 0, .int .u8 0, .nilFunc, .pointer none, .int .i32 0, .int .i32 0]), 11, 48)),
    (135, (some (.agg #[.int .u64 0, .int .u64 0, .int .u32 0, .int .u8 0, .int .u8 0, .int .u8 0, .int .u8 0, .nilFunc, .pointer none, .int .i32 0, .int .i32 0]), 11, 48)),
    (136, (some (.pointer none), 1, 8))],
  fld := [(7, [(0, (1, false)), (1, (1, false)), (2, (1, false)), (3, (1, false))]),
    (8, [(0, (1, false)), (1, (1, false)), (2, (1, false)), (3, (1, false))]),
    (13, [(0, (1, false)), (1, (1, false))]),
    (14, [(0, (1, false)), (1, (1, false))]),
    (18, [(0, (1, false))]),
    (19, [(0, (1, false))]),
    (22, [(0, (1, false)), (1, (1, false)), (2, (1, false))]),
    (23, [(0, (1, false)), (1, (1, false)), (2, (1, false))]),
    (25, [(0, (1, false)), (1, (1, false)), (2, (1, false))]),
    (26, [(0, (1, false)), (1, (1, false)), (2, (1, false))]),
    (52, [(0, (1, false))]),
    (53, [(0, (1, false))]),
    (55, [(0, (1, false)), (1, (3, true)), (4, (3, true)), (7, (1, true)), (8, (1, false))]),
    (56, [(0, (1, false)), (1, (3, true)), (4, (3, true)), (7, (1, true)), (8, (1, false))]),
    (78, [(0, (1, false)), (1, (1, false)), (2, (1, false)), (3, (1, false))]),
    (79, [(0, (1, false)), (1, (1, false)), (2, (1, false)), (3, (1, false))]),
    (103, [(0, (1, false)), (1, (1, false))]),
    (104, [(0, (1, false)), (1, (1, false))]),
    (121, [(0, (1, false)), (1, (1, false)), (2, (1, false)), (3, (1, false))]),
    (122, [(0, (1, false)), (1, (1, false)), (2, (1, false)), (3, (1, false))]),
    (124, [(0, (0, true))]),
    (125, [(0, (0, true))]),
    (134, [(0, (1, false)), (1, (1, false)), (2, (1, false)), (3, (1, false)), (4, (1, false)), (5, (1, false)), (6, (1, false)), (7, (1, false)), (8, (1, false)), (9, (1, false)), (10, (1, false))]),
    (135, [(0, (1, false)), (1, (1, false)), (2, (1, false)), (3, (1, false)), (4, (1, false)), (5, (1, false)), (6, (1, false)), (7, (1, false)), (8, (1, false)), (9, (1, false)), (10, (1, false))])],
  eqs := [(22, 3), (23, 3), (25, 3), (26, 3), (103, 2), (104, 2)] }
theorem ty_1 : tyI Try.prog 1 = some (some (.nilFunc), 1, 8) := by kernel_rfl
theorem ty_2 : tyI Try.prog 2 = some (some (.int .i64 0), 1, 8) := by kernel_rfl
theorem ty_3 : tyI Try.prog 3 = some (some (.int .i64 0), 1, 8) := by kernel_rfl
theorem ty_4 : tyI Try.prog 4 = some (some (.bool false), 1, 1) := by kernel_rfl
theorem ty_5 : tyI Try.prog 5 = some (some (.int .u8 0), 1, 1) := by kernel_rfl
theorem ty_6 : tyI Try.prog 6 = some (some (.int .u8 0), 1, 1) := by kernel_rfl
theorem ty_7 : tyI Try.prog 7 = some (some (.agg #[.int .i64 0, .int .i64 0, .bool false, .int .u8 0]), 4, 24) := by kernel_rfl
theorem ty_8 : tyI Try.prog 8 = some (some (.agg #[.int .i64 0, .int .i64 0, .bool false, .int .u8 0]), 4, 24) := by kernel_rfl
theorem ty_9 : tyI Try.prog 9 = some (some (.string ByteArray.empty), 1, 16) := by kernel_rfl
theorem ty_10 : tyI Try.prog 10 = some (some (.string ByteArray.empty), 1, 16) := by kernel_rfl
theorem ty_11 : tyI Try.prog 11 = some (some (.string ByteArray.empty), 1, 16) := by kernel_rfl
theorem ty_12 : tyI Try.prog 12 = some (some (.int .u64 0), 1, 8) := by kernel_rfl
theorem ty_13 : tyI Try.prog 13 = some (some (.agg #[.string ByteArray.empty, .int .u64 0]), 2, 24) := by kernel_rfl
theorem ty_14 : tyI Try.prog 14 = some (some (.agg #[.string ByteArray.empty, .int .u64 0]), 2, 24) := by kernel_rfl
theorem ty_15 : tyI Try.prog 15 = some (some (.pointer none), 1, 8) := by kernel_rfl
theorem ty_16 : tyI Try.prog 16 = some (some (.pointer none), 1, 8) := by kernel_rfl
theorem ty_17 : tyI Try.prog 17 = some (some (.pointer none), 1, 8) := by kernel_rfl
theorem ty_18 : tyI Try.prog 18 = some (some (.agg #[.pointer none]), 1, 8) := by kernel_rfl
theorem ty_19 : tyI Try.prog 19 = some (some (.agg #[.pointer none]), 1, 8) := by kernel_rfl
theorem ty_20 : tyI Try.prog 20 = some (some (.nilIface), 1, 16) := by kernel_rfl
theorem ty_21 : tyI Try.prog 21 = some (some (.int .i32 0), 1, 4) := by kernel_rfl
theorem ty_22 : tyI Try.prog 22 = some (some (.agg #[.int .i64 0, .int .i64 0, .int .i64 0]), 3, 24) := by kernel_rfl
theorem ty_23 : tyI Try.prog 23 = some (some (.agg #[.int .i64 0, .int .i64 0, .int .i64 0]), 3, 24) := by kernel_rfl
theorem ty_24 : tyI Try.prog 24 = some (some (.nilFunc), 1, 8) := by kernel_rfl
theorem ty_25 : tyI Try.prog 25 = some (some (.agg #[.int .i64 0, .int .i64 0, .int .i64 0]), 3, 24) := by kernel_rfl
theorem ty_26 : tyI Try.prog 26 = some (some (.agg #[.int .i64 0, .int .i64 0, .int .i64 0]), 3, 24) := by kernel_rfl
theorem ty_27 : tyI Try.prog 27 = some (some (.int .i64 0), 1, 8) := by kernel_rfl
theorem ty_29 : tyI Try.prog 29 = some (some (.nilFunc), 1, 8) := by kernel_rfl
theorem ty_31 : tyI Try.prog 31 = some (some (.nilFunc), 1, 8) := by kernel_rfl
theorem ty_32 : tyI Try.prog 32 = some (some (.nilFunc), 1, 8) := by kernel_rfl
theorem ty_33 : tyI Try.prog 33 = some (some (.nilFunc), 1, 8) := by kernel_rfl
theorem ty_34 : tyI Try.prog 34 = some (some (.nilFunc), 1, 8) := by kernel_rfl
theorem ty_35 : tyI Try.prog 35 = some (some (.nilFunc), 1, 8) := by kernel_rfl
theorem ty_36 : tyI Try.prog 36 = some (some (.nilFunc), 1, 8) := by kernel_rfl
theorem ty_38 : tyI Try.prog 38 = some (some (.nilFunc), 1, 8) := by kernel_rfl
theorem ty_39 : tyI Try.prog 39 = some (some (.nilFunc), 1, 8) := by kernel_rfl
theorem ty_41 : tyI Try.prog 41 = some (some (.nilFunc), 1, 8) := by kernel_rfl
theorem ty_42 : tyI Try.prog 42 = some (some (.nilFunc), 1, 8) := by kernel_rfl
theorem ty_43 : tyI Try.prog 43 = some (some (.nilFunc), 1, 8) := by kernel_rfl
theorem ty_44 : tyI Try.prog 44 = some (some (.nilFunc), 1, 8) := by kernel_rfl
theorem ty_45 : tyI Try.prog 45 = some (some (.nilFunc), 1, 8) := by kernel_rfl
theorem ty_46 : tyI Try.prog 46 = some (some (.nilFunc), 1, 8) := by kernel_rfl
theorem ty_47 : tyI Try.prog 47 = some (some (.nilFunc), 1, 8) := by kernel_rfl
theorem ty_48 : tyI Try.prog 48 = some (some (.nilFunc), 1, 8) := by kernel_rfl
theorem ty_49 : tyI Try.prog 49 = some (some (.slice none 0 0), 1, 24) := by kernel_rfl
theorem ty_50 : tyI Try.prog 50 = some (some (.nilFunc), 1, 8) := by kernel_rfl
theorem ty_51 : tyI Try.prog 51 = some (some (.slice none 0 0), 1, 24) := by kernel_rfl
theorem ty_52 : tyI Try.prog 52 = some (some (.agg #[.slice none 0 0]), 1, 24) := by kernel_rfl
theorem ty_53 : tyI Try.prog 53 = some (some (.agg #[.slice none 0 0]), 1, 24) := by kernel_rfl
theorem ty_54 : tyI Try.prog 54 = some (some (.slice none 0 0), 1, 24) := by kernel_rfl
theorem ty_55 : tyI Try.prog 55 = some (some (.agg #[.string ByteArray.empty, .int .i64 0, .int .i64 0, .int .i64 0, .int .i64 0, .int .i64 0, .int .i64 0, .slice none 0 0, .slice none 0 0]), 9, 112) := by kernel_rfl
theorem ty_56 : tyI Try.prog 56 = some (some (.agg #[.string ByteArray.empty, .int .i64 0, .int .i64 0, .int .i64 0, .int .i64 0, .int .i64 0, .int .i64 0, .slice none 0 0, .slice none 0 0]), 9, 112) := by kernel_rfl
theorem ty_57 : tyI Try.prog 57 = some (some (.nilFunc), 1, 8) := by kernel_rfl
theorem ty_59 : tyI Try.prog 59 = some (some (.nilFunc), 1, 8) := by kernel_rfl
theorem ty_60 : tyI Try.prog 60 = some (some (.nilFunc), 1, 8) := by kernel_rfl
theorem ty_61 : tyI Try.prog 61 = some (some (.nilFunc), 1, 8) := by kernel_rfl
theorem ty_62 : tyI Try.prog 62 = some (some (.nilFunc), 1, 8) := by kernel_rfl
theorem ty_63 : tyI Try.prog 63 = some (some (.nilFunc), 1, 8) := by kernel_rfl
theorem ty_64 : tyI Try.prog 64 = some (some (.nilFunc), 1, 8) := by kernel_rfl
theorem ty_65 : tyI Try.prog 65 = some (some (.slice none 0 0), 1, 24) := by kernel_rfl
theorem ty_66 : tyI Try.prog 66 = some (some (.nilFunc), 1, 8) := by kernel_rfl
theorem ty_67 : tyI Try.prog 67 = some (some (.nilFunc), 1, 8) := by kernel_rfl
theorem ty_68 : tyI Try.prog 68 = some (some (.nilFunc), 1, 8) := by kernel_rfl
theorem ty_69 : tyI Try.prog 69 = some (some (.nilFunc), 1, 8) := by kernel_rfl
theorem ty_71 : tyI Try.prog 71 = some (some (.nilFunc), 1, 8) := by kernel_rfl
theorem ty_72 : tyI Try.prog 72 = some (some (.nilFunc), 1, 8) := by kernel_rfl
theorem ty_73 : tyI Try.prog 73 = some (some (.nilFunc), 1, 8) := by kernel_rfl
theorem ty_74 : tyI Try.prog 74 = some (some (.nilFunc), 1, 8) := by kernel_rfl
theorem ty_76 : tyI Try.prog 76 = some (some (.nilFunc), 1, 8) := by kernel_rfl
theorem ty_77 : tyI Try.prog 77 = some (some (.nilFunc), 1, 8) := by kernel_rfl
theorem ty_78 : tyI Try.prog 78 = some (some (.agg #[.int .i64 0, .int .i64 0, .int .i64 0, .slice none 0 0]), 4, 48) := by kernel_rfl
theorem ty_79 : tyI Try.prog 79 = some (some (.agg #[.int .i64 0, .int .i64 0, .int .i64 0, .slice none 0 0]), 4, 48) := by kernel_rfl
theorem ty_81 : tyI Try.prog 81 = some (some (.nilFunc), 1, 8) := by kernel_rfl
theorem ty_82 : tyI Try.prog 82 = some (some (.nilFunc), 1, 8) := by kernel_rfl
theorem ty_83 : tyI Try.prog 83 = some (some (.nilFunc), 1, 8) := by kernel_rfl
theorem ty_84 : tyI Try.prog 84 = some (some (.nilFunc), 1, 8) := by kernel_rfl
theorem ty_85 : tyI Try.prog 85 = some (some (.nilFunc), 1, 8) := by kernel_rfl
theorem ty_86 : tyI Try.prog 86 = some (some (.nilFunc), 1, 8) := by kernel_rfl
theorem ty_87 : tyI Try.prog 87 = some (some (.nilFunc), 1, 8) := by kernel_rfl
theorem ty_88 : tyI Try.prog 88 = some (some (.nilFunc), 1, 8) := by kernel_rfl
theorem ty_90 : tyI Try.prog 90 = some (some (.nilFunc), 1, 8) := by kernel_rfl
theorem ty_91 : tyI Try.prog 91 = some (some (.nilFunc), 1, 8) := by kernel_rfl
theorem ty_92 : tyI Try.prog 92 = some (some (.nilFunc), 1, 8) := by kernel_rfl
theorem ty_93 : tyI Try.prog 93 = some (some (.nilFunc), 1, 8) := by kernel_rfl
theorem ty_94 : tyI Try.prog 94 = some (some (.nilFunc), 1, 8) := by kernel_rfl
theorem ty_95 : tyI Try.prog 95 = some (some (.agg #[.int .i64 0, .int .i64 0, .int .i64 0]), 3, 24) := by kernel_rfl
theorem ty_96 : tyI Try.prog 96 = some (some (.int .u64 0), 1, 8) := by kernel_rfl
theorem ty_97 : tyI Try.prog 97 = some (some (.nilFunc), 1, 8) := by kernel_rfl
theorem ty_98 : tyI Try.prog 98 = some (some (.nilFunc), 1, 8) := by kernel_rfl
theorem ty_99 : tyI Try.prog 99 = some (some (.pointer none), 1, 8) := by kernel_rfl
theorem ty_100 : tyI Try.prog 100 = some (some (.nilFunc), 1, 8) := by kernel_rfl
theorem ty_101 : tyI Try.prog 101 = some (some (.nilFunc), 1, 8) := by kernel_rfl
theorem ty_102 : tyI Try.prog 102 = some (some (.nilFunc), 1, 8) := by kernel_rfl
theorem ty_103 : tyI Try.prog 103 = some (some (.agg #[.int .i64 0, .int .i64 0]), 2, 16) := by kernel_rfl
theorem ty_104 : tyI Try.prog 104 = some (some (.agg #[.int .i64 0, .int .i64 0]), 2, 16) := by kernel_rfl
theorem ty_105 : tyI Try.prog 105 = some (some (.nilFunc), 1, 8) := by kernel_rfl
theorem ty_106 : tyI Try.prog 106 = some (some (.nilFunc), 1, 8) := by kernel_rfl
theorem ty_107 : tyI Try.prog 107 = some (some (.nilFunc), 1, 8) := by kernel_rfl
theorem ty_108 : tyI Try.prog 108 = some (some (.nilFunc), 1, 8) := by kernel_rfl
theorem ty_109 : tyI Try.prog 109 = some (some (.nilFunc), 1, 8) := by kernel_rfl
theorem ty_110 : tyI Try.prog 110 = some (some (.pointer none), 1, 8) := by kernel_rfl
theorem ty_112 : tyI Try.prog 112 = some (some (.nilFunc), 1, 8) := by kernel_rfl
theorem ty_113 : tyI Try.prog 113 = some (some (.nilFunc), 1, 8) := by kernel_rfl
theorem ty_114 : tyI Try.prog 114 = some (some (.nilFunc), 1, 8) := by kernel_rfl
theorem ty_115 : tyI Try.prog 115 = some (some (.nilFunc), 1, 8) := by kernel_rfl
theorem ty_116 : tyI Try.prog 116 = some (some (.nilFunc), 1, 8) := by kernel_rfl
theorem ty_117 : tyI Try.prog 117 = some (some (.nilFunc), 1, 8) := by kernel_rfl
theorem ty_118 : tyI Try.prog 118 = some (some (.nilFunc), 1, 8) := by kernel_rfl
theorem ty_119 : tyI Try.prog 119 = some (some (.agg #[.int .i64 0, .int .i64 0, .int .i64 0, .int .i64 0]), 4, 32) := by kernel_rfl
theorem ty_120 : tyI Try.prog 120 = some (some (.nilFunc), 1, 8) := by kernel_rfl
theorem ty_121 : tyI Try.prog 121 = some (some (.agg #[.pointer none, .pointer none, .pointer none, .string ByteArray.empty]), 4, 40) := by kernel_rfl
theorem ty_122 : tyI Try.prog 122 = some (some (.agg #[.pointer none, .pointer none, .pointer none, .string ByteArray.empty]), 4, 40) := by kernel_rfl
theorem ty_123 : tyI Try.prog 123 = some (some (.agg #[]), 0, 0) := by kernel_rfl
theorem ty_124 : tyI Try.prog 124 = some (some (.agg #[]), 0, 0) := by kernel_rfl
theorem ty_125 : tyI Try.prog 125 = some (some (.agg #[]), 0, 0) := by kernel_rfl
theorem ty_126 : tyI Try.prog 126 = some (some (.nilFunc), 1, 8) := by kernel_rfl
theorem ty_127 : tyI Try.prog 127 = some (some (.int .u32 0), 1, 4) := by kernel_rfl
theorem ty_128 : tyI Try.prog 128 = some (some (.int .u8 0), 1, 1) := by kernel_rfl
theorem ty_129 : tyI Try.prog 129 = some (some (.int .u8 0), 1, 1) := by kernel_rfl
theorem ty_130 : tyI Try.prog 130 = some (some (.nilFunc), 1, 8) := by kernel_rfl
theorem ty_131 : tyI Try.prog 131 = some (some (.pointer none), 1, 8) := by kernel_rfl
theorem ty_132 : tyI Try.prog 132 = some (some (.int .i32 0), 1, 4) := by kernel_rfl
theorem ty_133 : tyI Try.prog 133 = some (some (.int .i32 0), 1, 4) := by kernel_rfl
theorem ty_134 : tyI Try.prog 134 = some (some (.agg #[.int .u64 0, .int .u64 0, .int .u32 0, .int .u8 0, .int .u8 0, .int .u8 0, .int .u8 0, .nilFunc, .pointer none, .int .i32 0, .int .i32 0]), 11, 48) := by kernel_rfl
theorem ty_135 : tyI Try.prog 135 = some (some (.agg #[.int .u64 0, .int .u64 0, .int .u32 0, .int .u8 0, .int .u8 0, .int .u8 0, .int .u8 0, .nilFunc, .pointer none, .int .i32 0, .int .i32 0]), 11, 48) := by kernel_rfl
theorem ty_136 : tyI Try.prog 136 = some (some (.pointer none), 1, 8) := by kernel_rfl
theorem fl_7 : fieldsP Try.prog 7 = some [(0, (1, false)), (1, (1, false)), (2, (1, false)), (3, (1, false))] := by kernel_rfl
theorem fl_8 : fieldsP Try.prog 8 = some [(0, (1, false)), (1, (1, false)), (2, (1, false)), (3, (1, false))] := by kernel_rfl
theorem fl_13 : fieldsP Try.prog 13 = some [(0, (1, false)), (1, (1, false))] := by kernel_rfl
theorem fl_14 : fieldsP Try.prog 14 = some [(0, (1, false)), (1, (1, false))] := by kernel_rfl
theorem fl_18 : fieldsP Try.prog 18 = some [(0, (1, false))] := by kernel_rfl
theorem fl_19 : fieldsP Try.prog 19 = some [(0, (1, false))] := by kernel_rfl
theorem fl_22 : fieldsP Try.prog 22 = some [(0, (1, false)), (1, (1, false)), (2, (1, false))] := by kernel_rfl
theorem fl_23 : fieldsP Try.prog 23 = some [(0, (1, false)), (1, (1, false)), (2, (1, false))] := by kernel_rfl
theorem fl_25 : fieldsP Try.prog 25 = some [(0, (1, false)), (1, (1, false)), (2, (1, false))] := by kernel_rfl
theorem fl_26 : fieldsP Try.prog 26 = some [(0, (1, false)), (1, (1, false)), (2, (1, false))] := by kernel_rfl
theorem fl_52 : fieldsP Try.prog 52 = some [(0, (1, false))] := by kernel_rfl
theorem fl_53 : fieldsP Try.prog 53 = some [(0, (1, false))] := by kernel_rfl
theorem fl_55 : fieldsP Try.prog 55 = some [(0, (1, false)), (1, (3, true)), (4, (3, true)), (7, (1, true)), (8, (1, false))] := by kernel_rfl
theorem fl_56 : fieldsP Try.prog 56 = some [(0, (1, false)), (1, (3, true)), (4, (3, true)), (7, (1, true)), (8, (1, false))] := by kernel_rfl
theorem fl_78 : fieldsP Try.prog 78 = some [(0, (1, false)), (1, (1, false)), (2, (1, false)), (3, (1, false))] := by kernel_rfl
theorem fl_79 : fieldsP Try.prog 79 = some [(0, (1, false)), (1, (1, false)), (2, (1, false)), (3, (1, false))] := by kernel_rfl
theorem fl_103 : fieldsP Try.prog 103 = some [(0, (1, false)), (1, (1, false))] := by kernel_rfl
theorem fl_104 : fieldsP Try.prog 104 = some [(0, (1, false)), (1, (1, false))] := by kernel_rfl
theorem fl_121 : fieldsP Try.prog 121 = some [(0, (1, false)), (1, (1, false)), (2, (1, false)), (3, (1, false))] := by kernel_rfl
theorem fl_122 : fieldsP Try.prog 122 = some [(0, (1, false)), (1, (1, false)), (2, (1, false)), (3, (1, false))] := by kernel_rfl
theorem fl_124 : fieldsP Try.prog 124 = some [(0, (0, true))] := by kernel_rfl
theorem fl_125 : fieldsP Try.prog 125 = some [(0, (0, true))] := by kernel_rfl
theorem fl_134 : fieldsP Try.prog 134 = some [(0, (1, false)), (1, (1, false)), (2, (1, false)), (3, (1, false)), (4, (1, false)), (5, (1, false)), (6, (1, false)), (7, (1, false)), (8, (1, false)), (9, (1, false)), (10, (1, false))] := by kernel_rfl
theorem fl_135 : fieldsP Try.prog 135 = some [(0, (1, false)), (1, (1, false)), (2, (1, false)), (3, (1, false)), (4, (1, false)), (5, (1, false)), (6, (1, false)), (7, (1, false)), (8, (1, false)), (9, (1, false)), (10, (1, false))] := by kernel_rfl
theorem eq_22 : eqInts Try.prog 22 = true ∧ (match Try.prog.underlying 22 with | some (.struct fs) => fs.size | _ => 0) = 3 := ⟨by kernel_rfl, by rw [Try.underlying22]; rfl⟩
theorem eq_23 : eqInts Try.prog 23 = true ∧ (match Try.prog.underlying 23 with | some (.struct fs) => fs.size | _ => 0) = 3 := ⟨by kernel_rfl, by rw [Try.underlying23]; rfl⟩
theorem eq_25 : eqInts Try.prog 25 = true ∧ (match Try.prog.underlying 25 with | some (.struct fs) => fs.size | _ => 0) = 3 := ⟨by kernel_rfl, by rw [Try.underlying25]; rfl⟩
theorem eq_26 : eqInts Try.prog 26 = true ∧ (match Try.prog.underlying 26 with | some (.struct fs) => fs.size | _ => 0) = 3 := ⟨by kernel_rfl, by rw [Try.underlying26]; rfl⟩
theorem eq_103 : eqInts Try.prog 103 = true ∧ (match Try.prog.underlying 103 with | some (.struct fs) => fs.size | _ => 0) = 2 := ⟨by kernel_rfl, by rw [Try.underlying103]; rfl⟩
theorem eq_104 : eqInts Try.prog 104 = true ∧ (match Try.prog.underlying 104 with | some (.struct fs) => fs.size | _ => 0) = 2 := ⟨by kernel_rfl, by rw [Try.underlying104]; rfl⟩
theorem tab_und : allP (fun k D => Try.prog.underlying k = some D) tab.und := ⟨Try.underlying0, ⟨Try.underlying1, ⟨Try.underlying2, ⟨Try.underlying3, ⟨Try.underlying4, ⟨Try.underlying5, ⟨Try.underlying6, ⟨Try.underlying7, ⟨Try.underlying8, ⟨Try.underlying9, ⟨Try.underlying10, ⟨Try.underlying11, ⟨Try.underlying12, ⟨Try.underlying13, ⟨Try.underlying14, ⟨Try.underlying15, ⟨Try.underlying16, ⟨Try.underlying17, ⟨Try.underlying18, ⟨Try.underlying19, ⟨Try.underlying20, ⟨Try.underlying21, ⟨Try.underlying22, ⟨Try.underlying23, ⟨Try.underlying24, ⟨Try.underlying25, ⟨Try.underlying26, ⟨Try.underlying27, ⟨Try.underlying28, ⟨Try.underlying29, ⟨Try.underlying30, ⟨Try.underlying31, ⟨Try.underlying32, ⟨Try.underlying33, ⟨Try.underlying34, ⟨Try.underlying35, ⟨Try.underlying36, ⟨Try.underlying37, ⟨Try.underlying38, ⟨Try.underlying39, ⟨Try.underlying40, ⟨Try.underlying41, ⟨Try.underlying42, ⟨Try.underlying43, ⟨Try.underlying44, ⟨Try.underlying45, ⟨Try.underlying46, ⟨Try.underlying47, ⟨Try.underlying48, ⟨Try.underlying49, ⟨Try.underlying50, ⟨Try.underlying51, ⟨Try.underlying52, ⟨Try.underlying53, ⟨Try.underlying54, ⟨Try.underlying55, ⟨Try.underlying56, ⟨Try.underlying57, ⟨Try.underlying58, ⟨Try.underlying59, ⟨Try.underlying60, ⟨Try.underlying61, ⟨Try.underlying62, ⟨Try.underlying63, ⟨Try.underlying64, ⟨Try.underlying65, ⟨Try.underlying66, ⟨Try.underlying67, ⟨Try.underlying68, ⟨Try.underlying69, ⟨Try.underlying70, ⟨Try.underlying71, ⟨Try.underlying72, ⟨Try.underlying73, ⟨Try.underlying74, ⟨Try.underlying75, ⟨Try.underlying76, ⟨Try.underlying77, ⟨Try.underlying78, ⟨Try.underlying79, ⟨Try.underlying80, ⟨Try.underlying81, ⟨Try.underlying82, ⟨Try.underlying83, ⟨Try.underlying84, ⟨Try.underlying85, ⟨Try.underlying86, ⟨Try.underlying87, ⟨Try.underlying88, ⟨Try.underlying89, ⟨Try.underlying90, ⟨Try.underlying91, ⟨Try.underlying92, ⟨Try.underlying93, ⟨Try.underlying94, ⟨Try.underlying95, ⟨Try.underlying96, ⟨Try.underlying97, ⟨Try.underlying98, ⟨Try.underlying99, ⟨Try.underlying100, ⟨Try.underlying101, ⟨Try.underlying102, ⟨Try.underlying103, ⟨Try.underlying104, ⟨Try.underlying105, ⟨Try.underlying106, ⟨Try.underlying107, ⟨Try.underlying108, ⟨Try.underlying109, ⟨Try.underlying110, ⟨Try.underlying111, ⟨Try.underlying112, ⟨Try.underlying113, ⟨Try.underlying114, ⟨Try.underlying115, ⟨Try.underlying116, ⟨Try.underlying117, ⟨Try.underlying118, ⟨Try.underlying119, ⟨Try.underlying120, ⟨Try.underlying121, ⟨Try.underlying122, ⟨Try.underlying123, ⟨Try.underlying124, ⟨Try.underlying125, ⟨Try.underlying126, ⟨Try.underlying127, ⟨Try.underlying128, ⟨Try.underlying129, ⟨Try.underlying130, ⟨Try.underlying131, ⟨Try.underlying132, ⟨Try.underlying133, ⟨Try.underlying134, ⟨Try.underlying135, ⟨Try.underlying136, trivial⟩⟩⟩⟩⟩⟩⟩⟩⟩⟩⟩⟩⟩⟩⟩⟩⟩⟩⟩⟩⟩⟩⟩⟩⟩⟩⟩⟩⟩⟩⟩⟩⟩⟩⟩⟩⟩⟩⟩⟩⟩⟩⟩⟩⟩⟩⟩⟩⟩⟩⟩⟩⟩⟩⟩⟩⟩⟩⟩⟩⟩⟩⟩⟩⟩⟩⟩⟩⟩⟩⟩⟩⟩⟩⟩⟩⟩⟩⟩⟩⟩⟩⟩⟩⟩⟩⟩⟩⟩⟩⟩⟩⟩⟩⟩⟩⟩⟩⟩⟩⟩⟩⟩⟩⟩⟩⟩⟩⟩⟩⟩⟩⟩⟩⟩⟩⟩⟩⟩⟩⟩⟩⟩⟩⟩⟩⟩⟩⟩⟩⟩⟩⟩⟩⟩⟩⟩
theorem tab_inf : allP (fun k x => tyI Try.prog k = some x) tab.inf := ⟨ty_1, ⟨ty_2, ⟨ty_3, ⟨ty_4, ⟨ty_5, ⟨ty_6, ⟨ty_7, ⟨ty_8, ⟨ty_9, ⟨ty_10, ⟨ty_11, ⟨ty_12, ⟨ty_13, ⟨ty_14, ⟨ty_15, ⟨ty_16, ⟨ty_17, ⟨ty_18, ⟨ty_19, ⟨ty_20, ⟨ty_21, ⟨ty_22, ⟨ty_23, ⟨ty_24, ⟨ty_25, ⟨ty_26, ⟨ty_27, ⟨ty_29, ⟨ty_31, ⟨ty_32, ⟨ty_33, ⟨ty_34, ⟨ty_35, ⟨ty_36, ⟨ty_38, ⟨ty_39, ⟨ty_41, ⟨ty_42, ⟨ty_43, ⟨ty_44, ⟨ty_45, ⟨ty_46, ⟨ty_47, ⟨ty_48, ⟨ty_49, ⟨ty_50, ⟨ty_51, ⟨ty_52, ⟨ty_53, ⟨ty_54, ⟨ty_55, ⟨ty_56, ⟨ty_57, ⟨ty_59, ⟨ty_60, ⟨ty_61, ⟨ty_62, ⟨ty_63, ⟨ty_64, ⟨ty_65, ⟨ty_66, ⟨ty_67, ⟨ty_68, ⟨ty_69, ⟨ty_71, ⟨ty_72, ⟨ty_73, ⟨ty_74, ⟨ty_76, ⟨ty_77, ⟨ty_78, ⟨ty_79, ⟨ty_81, ⟨ty_82, ⟨ty_83, ⟨ty_84, ⟨ty_85, ⟨ty_86, ⟨ty_87, ⟨ty_88, ⟨ty_90, ⟨ty_91, ⟨ty_92, ⟨ty_93, ⟨ty_94, ⟨ty_95, ⟨ty_96, ⟨ty_97, ⟨ty_98, ⟨ty_99, ⟨ty_100, ⟨ty_101, ⟨ty_102, ⟨ty_103, ⟨ty_104, ⟨ty_105, ⟨ty_106, ⟨ty_107, ⟨ty_108, ⟨ty_109, ⟨ty_110, ⟨ty_112, ⟨ty_113, ⟨ty_114, ⟨ty_115, ⟨ty_116, ⟨ty_117, ⟨ty_118, ⟨ty_119, ⟨ty_120, ⟨ty_121, ⟨ty_122, ⟨ty_123, ⟨ty_124, ⟨ty_125, ⟨ty_126, ⟨ty_127, ⟨ty_128, ⟨ty_129, ⟨ty_130, ⟨ty_131, ⟨ty_132, ⟨ty_133, ⟨ty_134, ⟨ty_135, ⟨ty_136, trivial⟩⟩⟩⟩⟩⟩⟩⟩⟩⟩⟩⟩⟩⟩⟩⟩⟩⟩⟩⟩⟩⟩⟩⟩⟩⟩⟩⟩⟩⟩⟩⟩⟩⟩⟩⟩⟩⟩⟩⟩⟩⟩⟩⟩⟩⟩⟩⟩⟩⟩⟩⟩⟩⟩⟩⟩⟩⟩⟩⟩⟩⟩⟩⟩⟩⟩⟩⟩⟩⟩⟩⟩⟩⟩⟩⟩⟩⟩⟩⟩⟩⟩⟩⟩⟩⟩⟩⟩⟩⟩⟩⟩⟩⟩⟩⟩⟩⟩⟩⟩⟩⟩⟩⟩⟩⟩⟩⟩⟩⟩⟩⟩⟩⟩⟩⟩⟩⟩⟩⟩⟩⟩⟩⟩⟩⟩
theorem tab_fld : allP (fun k x => fieldsP Try.prog k = some x) tab.fld := ⟨fl_7, ⟨fl_8, ⟨fl_13, ⟨fl_14, ⟨fl_18, ⟨fl_19, ⟨fl_22, ⟨fl_23, ⟨fl_25, ⟨fl_26, ⟨fl_52, ⟨fl_53, ⟨fl_55, ⟨fl_56, ⟨fl_78, ⟨fl_79, ⟨fl_103, ⟨fl_104, ⟨fl_121, ⟨fl_122, ⟨fl_124, ⟨fl_125, ⟨fl_134, ⟨fl_135, trivial⟩⟩⟩⟩⟩⟩⟩⟩⟩⟩⟩⟩⟩⟩⟩⟩⟩⟩⟩⟩⟩⟩⟩⟩
set_option maxRecDepth 100000 in
theorem tab_eqs : allP (fun k L => eqInts Try.prog k = true ∧ (match Try.prog.underlying k with | some (.struct fs) => fs.size | _ => 0) = L) tab.eqs := ⟨eq_22, ⟨eq_23, ⟨eq_25, ⟨eq_26, ⟨eq_103, ⟨eq_104, trivial⟩⟩⟩⟩⟩⟩
set_option maxRecDepth 100000 in
theorem tab_ok : tab.ok Try.prog := ⟨tab_und, tab_inf, tab_fld, tab_eqs⟩
def cas : List (Nat × Nat) := [(2, 0), (3, 0), (4, 0), (5, 0), (6, 0), (7, 0), (8, 0), (9, 0), (10, 0), (11, 0), (12, 0), (13, 0), (14, 0), (15, 0), (16, 0), (17, 0), (18, 0), (19, 0), (20, 0), (21, 0), (22, 0), (23, 0), (24, 0), (25, 0), (26, 0), (27, 0), (28, 0), (29, 0), (30, 0), (31, 0), (32, 0), (33, 0), (34, 0), (35, 0), (36, 0), (37, 0), (38, 0), (39, 0), (40, 0), (41, 0), (42, 0), (43, 0), (44, 0), (45, 0), (46, 0), (47, 0), (48, 0), (49, 0), (50, 0), (51, 0), (52, 0), (53, 0), (54, 0), (55, 0), (56, 0), (57, 0), (58, 0), (59, 0), (60, 0), (61, 0), (62, 0), (63, 0), (64, 0), (65, 0), (66, 0), (67, 0), (68, 0), (69, 0), (70, 0), (71, 0), (72, 0), (73, 0), (74, 0), (75, 0), (76, 0), (77, 0), (78, 0), (79, 0), (80, 0), (81, 0), (82, 0), (83, 0), (84, 0), (85, 0), (86, 0), (87, 0), (88, 0), (89, 0), (90, 0), (91, 0), (92, 0), (93, 0)]
theorem ca_2 : callable Try.prog 2 = true := by kernel_rfl
theorem ca_3 : callable Try.prog 3 = true := by kernel_rfl
theorem ca_4 : callable Try.prog 4 = true := by kernel_rfl
theorem ca_5 : callable Try.prog 5 = true := by kernel_rfl
theorem ca_6 : callable Try.prog 6 = true := by kernel_rfl
theorem ca_7 : callable Try.prog 7 = true := by kernel_rfl
theorem ca_8 : callable Try.prog 8 = true := by kernel_rfl
theorem ca_9 : callable Try.prog 9 = true := by kernel_rfl
theorem ca_10 : callable Try.prog 10 = true := by kernel_rfl
theorem ca_11 : callable Try.prog 11 = true := by kernel_rfl
theorem ca_12 : callable Try.prog 12 = true := by kernel_rfl
theorem ca_13 : callable Try.prog 13 = true := by kernel_rfl
theorem ca_14 : callable Try.prog 14 = true := by kernel_rfl
theorem ca_15 : callable Try.prog 15 = true := by kernel_rfl
theorem ca_16 : callable Try.prog 16 = true := by kernel_rfl
theorem ca_17 : callable Try.prog 17 = true := by kernel_rfl
theorem ca_18 : callable Try.prog 18 = true := by kernel_rfl
theorem ca_19 : callable Try.prog 19 = true := by kernel_rfl
theorem ca_20 : callable Try.prog 20 = true := by kernel_rfl
theorem ca_21 : callable Try.prog 21 = true := by kernel_rfl
theorem ca_22 : callable Try.prog 22 = true := by kernel_rfl
theorem ca_23 : callable Try.prog 23 = true := by kernel_rfl
theorem ca_24 : callable Try.prog 24 = true := by kernel_rfl
theorem ca_25 : callable Try.prog 25 = true := by kernel_rfl
theorem ca_26 : callable Try.prog 26 = true := by kernel_rfl
theorem ca_27 : callable Try.prog 27 = true := by kernel_rfl
theorem ca_28 : callable Try.prog 28 = true := by kernel_rfl
theorem ca_29 : callable Try.prog 29 = true := by kernel_rfl
theorem ca_30 : callable Try.prog 30 = true := by kernel_rfl
theorem ca_31 : callable Try.prog 31 = true := by kernel_rfl
theorem ca_32 : callable Try.prog 32 = true := by kernel_rfl
theorem ca_33 : callable Try.prog 33 = true := by kernel_rfl
theorem ca_34 : callable Try.prog 34 = true := by kernel_rfl
theorem ca_35 : callable Try.prog 35 = true := by kernel_rfl
theorem ca_36 : callable Try.prog 36 = true := by kernel_rfl
theorem ca_37 : callable Try.prog 37 = true := by kernel_rfl
theorem ca_38 : callable Try.prog 38 = true := by kernel_rfl
theorem ca_39 : callable Try.prog 39 = true := by kernel_rfl
theorem ca_40 : callable Try.prog 40 = true := by kernel_rfl
theorem ca_41 : callable Try.prog 41 = true := by kernel_rfl
theorem ca_42 : callable Try.prog 42 = true := by kernel_rfl
theorem ca_43 : callable Try.prog 43 = true := by kernel_rfl
theorem ca_44 : callable Try.prog 44 = true := by kernel_rfl
theorem ca_45 : callable Try.prog 45 = true := by kernel_rfl
theorem ca_46 : callable Try.prog 46 = true := by kernel_rfl
theorem ca_47 : callable Try.prog 47 = true := by kernel_rfl
theorem ca_48 : callable Try.prog 48 = true := by kernel_rfl
theorem ca_49 : callable Try.prog 49 = true := by kernel_rfl
theorem ca_50 : callable Try.prog 50 = true := by kernel_rfl
theorem ca_51 : callable Try.prog 51 = true := by kernel_rfl
theorem ca_52 : callable Try.prog 52 = true := by kernel_rfl
theorem ca_53 : callable Try.prog 53 = true := by kernel_rfl
theorem ca_54 : callable Try.prog 54 = true := by kernel_rfl
theorem ca_55 : callable Try.prog 55 = true := by kernel_rfl
theorem ca_56 : callable Try.prog 56 = true := by kernel_rfl
theorem ca_57 : callable Try.prog 57 = true := by kernel_rfl
theorem ca_58 : callable Try.prog 58 = true := by kernel_rfl
theorem ca_59 : callable Try.prog 59 = true := by kernel_rfl
theorem ca_60 : callable Try.prog 60 = true := by kernel_rfl
theorem ca_61 : callable Try.prog 61 = true := by kernel_rfl
theorem ca_62 : callable Try.prog 62 = true := by kernel_rfl
theorem ca_63 : callable Try.prog 63 = true := by kernel_rfl
theorem ca_64 : callable Try.prog 64 = true := by kernel_rfl
theorem ca_65 : callable Try.prog 65 = true := by kernel_rfl
theorem ca_66 : callable Try.prog 66 = true := by kernel_rfl
theorem ca_67 : callable Try.prog 67 = true := by kernel_rfl
theorem ca_68 : callable Try.prog 68 = true := by kernel_rfl
theorem ca_69 : callable Try.prog 69 = true := by kernel_rfl
theorem ca_70 : callable Try.prog 70 = true := by kernel_rfl
theorem ca_71 : callable Try.prog 71 = true := by kernel_rfl
theorem ca_72 : callable Try.prog 72 = true := by kernel_rfl
theorem ca_73 : callable Try.prog 73 = true := by kernel_rfl
theorem ca_74 : callable Try.prog 74 = true := by kernel_rfl
theorem ca_75 : callable Try.prog 75 = true := by kernel_rfl
theorem ca_76 : callable Try.prog 76 = true := by kernel_rfl
theorem ca_77 : callable Try.prog 77 = true := by kernel_rfl
theorem ca_78 : callable Try.prog 78 = true := by kernel_rfl
theorem ca_79 : callable Try.prog 79 = true := by kernel_rfl
theorem ca_80 : callable Try.prog 80 = true := by kernel_rfl
theorem ca_81 : callable Try.prog 81 = true := by kernel_rfl
theorem ca_82 : callable Try.prog 82 = true := by kernel_rfl
theorem ca_83 : callable Try.prog 83 = true := by kernel_rfl
theorem ca_84 : callable Try.prog 84 = true := by kernel_rfl
theorem ca_85 : callable Try.prog 85 = true := by kernel_rfl
theorem ca_86 : callable Try.prog 86 = true := by kernel_rfl
theorem ca_87 : callable Try.prog 87 = true := by kernel_rfl
theorem ca_88 : callable Try.prog 88 = true := by kernel_rfl
theorem ca_89 : callable Try.prog 89 = true := by kernel_rfl
theorem ca_90 : callable Try.prog 90 = true := by kernel_rfl
theorem ca_91 : callable Try.prog 91 = true := by kernel_rfl
theorem ca_92 : callable Try.prog 92 = true := by kernel_rfl
theorem ca_93 : callable Try.prog 93 = true := by kernel_rfl
theorem cas_ok : allP (fun k _ => callable Try.prog k = true) cas := ⟨ca_2, ⟨ca_3, ⟨ca_4, ⟨ca_5, ⟨ca_6, ⟨ca_7, ⟨ca_8, ⟨ca_9, ⟨ca_10, ⟨ca_11, ⟨ca_12, ⟨ca_13, ⟨ca_14, ⟨ca_15, ⟨ca_16, ⟨ca_17, ⟨ca_18, ⟨ca_19, ⟨ca_20, ⟨ca_21, ⟨ca_22, ⟨ca_23, ⟨ca_24, ⟨ca_25, ⟨ca_26, ⟨ca_27, ⟨ca_28, ⟨ca_29, ⟨ca_30, ⟨ca_31, ⟨ca_32, ⟨ca_33, ⟨ca_34, ⟨ca_35, ⟨ca_36, ⟨ca_37, ⟨ca_38, ⟨ca_39, ⟨ca_40, ⟨ca_41, ⟨ca_42, ⟨ca_43, ⟨ca_44, ⟨ca_45, ⟨ca_46, ⟨ca_47, ⟨ca_48, ⟨ca_49, ⟨ca_50, ⟨ca_51, ⟨ca_52, ⟨ca_53, ⟨ca_54, ⟨ca_55, ⟨ca_56, ⟨ca_57, ⟨ca_58, ⟨ca_59, ⟨ca_60, ⟨ca_61, ⟨ca_62, ⟨ca_63, ⟨ca_64, ⟨ca_65, ⟨ca_66, ⟨ca_67, ⟨ca_68, ⟨ca_69, ⟨ca_70, ⟨ca_71, ⟨ca_72, ⟨ca_73, ⟨ca_74, ⟨ca_75, ⟨ca_76, ⟨ca_77, ⟨ca_78, ⟨ca_79, ⟨ca_80, ⟨ca_81, ⟨ca_82, ⟨ca_83, ⟨ca_84, ⟨ca_85, ⟨ca_86, ⟨ca_87, ⟨ca_88, ⟨ca_89, ⟨ca_90, ⟨ca_91, ⟨ca_92, ⟨ca_93, trivial⟩⟩⟩⟩⟩⟩⟩⟩⟩⟩⟩⟩⟩⟩⟩⟩⟩⟩⟩⟩⟩⟩⟩⟩⟩⟩⟩⟩⟩⟩⟩⟩⟩⟩⟩⟩⟩⟩⟩⟩⟩⟩⟩⟩⟩⟩⟩⟩⟩⟩⟩⟩⟩⟩⟩⟩⟩⟩⟩⟩⟩⟩⟩⟩⟩⟩⟩⟩⟩⟩⟩⟩⟩⟩⟩⟩⟩⟩⟩⟩⟩⟩⟩⟩⟩⟩⟩⟩⟩⟩⟩⟩
end Go.Proofs.Ytdfocbeejgcglaa
/- What a run of the abstract machine asks of the program (printed by a program). -/
namespace Go.Proofs.Ytdfocbeejgcglaa
open Go
noncomputable def ctx : Ctx := ⟨tab, [(2, Try.f2), (3, Try.f3), (4, Try.f4), (5, Try.f5), (6, Try.f6), (7, Try.f7), (8, Try.f8), (9, Try.f9), (10, Try.f10), (11, Try.f11), (12, Try.f12), (13, Try.f13), (14, Try.f14), (15, Try.f15), (16, Try.f16), (17, Try.f17), (18, Try.f18), (19, Try.f19), (20, Try.f20), (21, Try.f21), (22, Try.f22), (23, Try.f23), (24, Try.f24), (25, Try.f25), (26, Try.f26), (27, Try.f27), (28, Try.f28), (29, Try.f29), (30, Try.f30), (31, Try.f31), (32, Try.f32), (33, Try.f33), (34, Try.f34), (35, Try.f35), (36, Try.f36), (37, Try.f37), (38, Try.f38), (39, Try.f39), (40, Try.f40), (41, Try.f41), (42, Try.f42), (43, Try.f43), (44, Try.f44), (45, Try.f45), (46, Try.f46), (47, Try.f47), (48, Try.f48), (49, Try.f49), (50, Try.f50), (51, Try.f51), (52, Try.f52), (53, Try.f53), (54, Try.f54), (55, Try.f55), (56, Try.f56), (57, Try.f57), (58, Try.f58), (59, Try.f59), (60, Try.f60), (61, Try.f61), (62, Try.f62), (63, Try.f63), (64, Try.f64), (65, Try.f65), (66, Try.f66), (67, Try.f67), (68, Try.f68), (69, Try.f69), (70, Try.f70), (71, Try.f71), (72, Try.f72), (73, Try.f73), (74, Try.f74), (75, Try.f75), (76, Try.f76), (77, Try.f77), (78, Try.f78), (79, Try.f79), (80, Try.f80), (81, Try.f81), (82, Try.f82), (83, Try.f83), (84, Try.f84), (85, Try.f85), (86, Try.f86), (87, Try.f87), (88, Try.f88), (89, Try.f89), (90, Try.f90), (91, Try.f91), (92, Try.f92), (93, Try.f93)], cas⟩
set_option maxRecDepth 100000 in
theorem fns_ok : allP (fun k f => Try.prog.funcs[k]? = some f) ctx.fns := ⟨Try.func2, ⟨Try.func3, ⟨Try.func4, ⟨Try.func5, ⟨Try.func6, ⟨Try.func7, ⟨Try.func8, ⟨Try.func9, ⟨Try.func10, ⟨Try.func11, ⟨Try.func12, ⟨Try.func13, ⟨Try.func14, ⟨Try.func15, ⟨Try.func16, ⟨Try.func17, ⟨Try.func18, ⟨Try.func19, ⟨Try.func20, ⟨Try.func21, ⟨Try.func22, ⟨Try.func23, ⟨Try.func24, ⟨Try.func25, ⟨Try.func26, ⟨Try.func27, ⟨Try.func28, ⟨Try.func29, ⟨Try.func30, ⟨Try.func31, ⟨Try.func32, ⟨Try.func33, ⟨Try.func34, ⟨Try.func35, ⟨Try.func36, ⟨Try.func37, ⟨Try.func38, ⟨Try.func39, ⟨Try.func40, ⟨Try.func41, ⟨Try.func42, ⟨Try.func43, ⟨Try.func44, ⟨Try.func45, ⟨Try.func46, ⟨Try.func47, ⟨Try.func48, ⟨Try.func49, ⟨Try.func50, ⟨Try.func51, ⟨Try.func52, ⟨Try.func53, ⟨Try.func54, ⟨Try.func55, ⟨Try.func56, ⟨Try.func57, ⟨Try.func58, ⟨Try.func59, ⟨Try.func60, ⟨Try.func61, ⟨Try.func62, ⟨Try.func63, ⟨Try.func64, ⟨Try.func65, ⟨Try.func66, ⟨Try.func67, ⟨Try.func68, ⟨Try.func69, ⟨Try.func70, ⟨Try.func71, ⟨Try.func72, ⟨Try.func73, ⟨Try.func74, ⟨Try.func75, ⟨Try.func76, ⟨Try.func77, ⟨Try.func78, ⟨Try.func79, ⟨Try.func80, ⟨Try.func81, ⟨Try.func82, ⟨Try.func83, ⟨Try.func84, ⟨Try.func85, ⟨Try.func86, ⟨Try.func87, ⟨Try.func88, ⟨Try.func89, ⟨Try.func90, ⟨Try.func91, ⟨Try.func92, ⟨Try.func93, trivial⟩⟩⟩⟩⟩⟩⟩⟩⟩⟩⟩⟩⟩⟩⟩⟩⟩⟩⟩⟩⟩⟩⟩⟩⟩⟩⟩⟩⟩⟩⟩⟩⟩⟩⟩⟩⟩⟩⟩⟩⟩⟩⟩⟩⟩⟩⟩⟩⟩⟩⟩⟩⟩⟩⟩⟩⟩⟩⟩⟩⟩⟩⟩⟩⟩⟩⟩⟩⟩⟩⟩⟩⟩⟩⟩⟩⟩⟩⟩⟩⟩⟩⟩⟩⟩⟩⟩⟩⟩⟩⟩⟩
theorem ctx_ok : ctx.ok Try.prog := ⟨tab_ok, fns_ok, cas_ok, by kernel_rfl⟩
end Go.Proofs.Ytdfocbeejgcglaa
/- Decompiling: the program's functions as the machine over terms takes them. -/
namespace Go.Proofs.Ytdfocbeejgcglaa
open Go Go.RowKit
noncomputable def dc (l : List (Nat × Ctr)) : DC := ⟨tab, ctx.fns, ctx.cas, l⟩
theorem dc_ok {l : List (Nat × Ctr)} (h : allP (CtrOk Try.prog) l) : (dc l).ok Try.prog := ⟨ctx_ok.T, ctx_ok.fns, ctx_ok.cas, ctx_ok.mixed, h⟩
theorem ctr_ok {l : List (Nat × Ctr)} (hl : allP (CtrOk Try.prog) l) {f : Nat} {an : An} {Fn : Nat} {σ ρ : Ty} {g : Nat → σ.den → Option ρ.den} (h : ∀ fu x, (topG (ρ := ρ) (dc l) (drR (dc l)) f an Fn σ (.var x)).den fu = g fu x) : CtrOk Try.prog Fn ⟨σ, ρ, g, Fn⟩ :=
  fun fu x _ hy => topG_ok (dc_ok hl) (fun _ _ hS => drR_ok (dc_ok hl) hS) ((h fu x).trans hy)
end Go.Proofs.Ytdfocbeejgcglaa
/- Residual programs of functions (printed by a program out of the code), checked by the kernel, and the contracts that follow. -/
namespace Go.Proofs.Ytdfocbeejgcglaa
open Go Go.RowKit
set_option linter.unusedVariables false
def R_SameInts_l1 (fu : Nat) (a : (List (Int)) × ((List (Int)) × (Unit))) (j0 : (Int) → Option ((Bool) × (Unit))) (v0 : Int) : Option ((Bool) × (Unit)) :=
  bif (decide (v0 < (List.length a.1 : Int))) then
    bif ((decide ((0 : Int) ≤ v0)) && (decide (v0 < (List.length a.1 : Int)))) then
    let v1 : Int := (List.getD a.1 (Int.toNat v0) 0)
    bif ((decide ((0 : Int) ≤ v0)) && (decide (v0 < (List.length a.2.1 : Int)))) then
    let v2 : Int := (List.getD a.2.1 (Int.toNat v0) 0)
    bif (decide (v1 ≠ v2)) then
      some ((false, ()))
    else
    j0 ((IntKind.i64.wrap (v0 + (1 : Int))))
    else none
    else none
  else
  some ((true, ()))
def R_SameInts_r (fu : Nat) (a : (List (Int)) × ((List (Int)) × (Unit))) : Option ((Bool) × (Unit)) :=
  bif (decide ((List.length a.1 : Int) ≠ (List.length a.2.1 : Int))) then
    some ((false, ()))
  else
  loopF (R_SameInts_l1 fu a) fu ((0 : Int))
def R_SameInts_an : An := (.n none .z (.n none (.n none .z (.n none (.n none .z .z) .z)) (.n none (.n none .z (.n none (.n (some ⟨[0, 1, 12], [], [], [.reg 13 (.int .i64)], 0, []⟩) (.n none .z (.n none .z (.n none (.n none (.n none .z (.n none (.dr [] []) (.n none (.n none .z .z) .z))) .z) .z))) .z) .z)) (.n none .z .z))))
noncomputable def R_SameInts_dc : List (Nat × Ctr) := []
def R_SameInts_ctr : Ctr := ⟨(.pair (.list (.int .i64)) (.pair (.list (.int .i64)) .unit)), (.pair .bool .unit), R_SameInts_r, 43⟩
theorem R_SameInts_ok : CtrOk Try.prog 43 R_SameInts_ctr := ctr_ok (l := R_SameInts_dc) (f := 12) (an := R_SameInts_an) trivial fun fu x => by kernel_rfl
def R_Floor_j1 (fu : Nat) (v1 : Int) : Option ((Int) × (Unit)) :=
  some ((v1, ()))
def R_Floor_r (fu : Nat) (a : (Int) × ((Int) × (Unit))) : Option ((Int) × (Unit)) :=
  bif (decide (a.2.1 ≠ (0 : Int))) then
  let v0 : Int := (IntKind.i64.wrap (Int.tdiv a.1 a.2.1))
  joinF (R_Floor_j1 fu) fun j1 =>
  bif (decide (a.1 < (IntKind.i64.wrap (v0 * a.2.1)))) then
    let v2 : Int := (IntKind.i64.wrap (v0 - (1 : Int)))
    j1 (v2)
  else
  j1 (v0)
  else none
def R_Floor_an : An := (.n none .z (.n none .z (.n (some ⟨[], [], [], [.reg 5 (.int .i64)], 0, []⟩) (.n none .z (.n none .z .z)) (.n none .z .z))))
noncomputable def R_Floor_dc : List (Nat × Ctr) := []
def R_Floor_ctr : Ctr := ⟨(.pair (.int .i64) (.pair (.int .i64) .unit)), (.pair (.int .i64) .unit), R_Floor_r, 27⟩
theorem R_Floor_ok : CtrOk Try.prog 27 R_Floor_ctr := ctr_ok (l := R_Floor_dc) (f := 12) (an := R_Floor_an) trivial fun fu x => by kernel_rfl
def R_Round_j1 (fu : Nat) (v2 : Int) : Option ((Int) × (Unit)) :=
  some ((v2, ()))
def R_Round_r (fu : Nat) (a : (Int) × ((Int) × (Unit))) : Option ((Int) × (Unit)) :=
  bindO (R_Floor_r fu ((a.1, (a.2.1, ())))) fun v0 =>
  let v1 : Int := v0.1
  joinF (R_Round_j1 fu) fun j2 =>
  bif (decide (a.2.1 ≤ (IntKind.i64.wrap ((2 : Int) * (IntKind.i64.wrap (a.1 - (IntKind.i64.wrap (v1 * a.2.1)))))))) then
    let v3 : Int := (IntKind.i64.wrap (v1 + (1 : Int)))
    j2 (v3)
  else
  j2 (v1)
def R_Round_an : An := (.n none .z (.n none .z (.n (some ⟨[], [], [], [.reg 5 (.int .i64)], 0, []⟩) (.n none .z (.n none .z .z)) (.n none .z .z))))
noncomputable def R_Round_dc : List (Nat × Ctr) := [(27, R_Floor_ctr)]
def R_Round_ctr : Ctr := ⟨(.pair (.int .i64) (.pair (.int .i64) .unit)), (.pair (.int .i64) .unit), R_Round_r, 29⟩
theorem R_Round_ok : CtrOk Try.prog 29 R_Round_ctr := ctr_ok (l := R_Round_dc) (f := 12) (an := R_Round_an) ⟨R_Floor_ok, trivial⟩ fun fu x => by kernel_rfl
def R_CurveAt_l1 (fu : Nat) (a : (List ((Int) × (Int))) × ((Int) × (Unit))) (j0 : (Int) → Option ((Int) × (Unit))) (v0 : Int) : Option ((Int) × (Unit)) :=
  bif (decide (v0 < (List.length a.1 : Int))) then
    bif ((decide ((0 : Int) ≤ (IntKind.i64.wrap (v0 - (1 : Int))))) && (decide ((IntKind.i64.wrap (v0 - (1 : Int))) < (List.length a.1 : Int)))) then
    let v1 : (Int) × (Int) := (List.getD a.1 (Int.toNat (IntKind.i64.wrap (v0 - (1 : Int)))) (0, 0))
    bif ((decide ((0 : Int) ≤ v0)) && (decide (v0 < (List.length a.1 : Int)))) then
    let v2 : (Int) × (Int) := (List.getD a.1 (Int.toNat v0) (0, 0))
    bif (decide (a.2.1 ≤ v2.1)) then
      bindO (R_Round_r fu (((IntKind.i64.wrap ((IntKind.i64.wrap (v1.2 * (IntKind.i64.wrap (v2.1 - a.2.1)))) + (IntKind.i64.wrap (v2.2 * (IntKind.i64.wrap (a.2.1 - v1.1)))))), ((IntKind.i64.wrap (v2.1 - v1.1)), ())))) fun v3 =>
      let v4 : Int := v3.1
      some ((v4, ()))
    else
    let v3 : Int := (IntKind.i64.wrap (v0 + (1 : Int)))
    j0 (v3)
    else none
    else none
  else
  some (((-1 : Int), ()))
def R_CurveAt_r (fu : Nat) (a : (List ((Int) × (Int))) × ((Int) × (Unit))) : Option ((Int) × (Unit)) :=
  loopF (R_CurveAt_l1 fu a) fu ((1 : Int))
def R_CurveAt_an : An := (.n none .z (.n none (.n none .z (.n none (.n (some ⟨[2, 1], [0], [], [.reg 5 (.int .i64)], 0, []⟩) (.n none (.n none .z .z) (.n none (.n none (.n none (.dr [] []) (.n none .z (.n none (.n none .z .z) .z))) .z) .z)) .z) .z)) (.n none .z .z)))
noncomputable def R_CurveAt_dc : List (Nat × Ctr) := [(29, R_Round_ctr)]
def R_CurveAt_ctr : Ctr := ⟨(.pair (.agg (.list (.pair (.int .i64) (.int .i64)))) (.pair (.int .i64) .unit)), (.pair (.int .i64) .unit), R_CurveAt_r, 42⟩
theorem R_CurveAt_ok : CtrOk Try.prog 42 R_CurveAt_ctr := ctr_ok (l := R_CurveAt_dc) (f := 12) (an := R_CurveAt_an) ⟨R_Round_ok, trivial⟩ fun fu x => by kernel_rfl
def R_SpotProcess_l1 (fu : Nat) (a : ((List UInt8) × (((Int) × ((Int) × (Int))) × (((Int) × ((Int) × (Int))) × ((List ((Int) × (Int))) × (List (Int)))))) × ((Int) × (Unit))) (j0 : ((Int) × (List (Int))) → Option ((List (Int)) × (Unit))) (v0 : (Int) × (List (Int))) : Option ((List (Int)) × (Unit)) :=
  bif (decide (v0.1 < (List.length a.1.2.2.2.2 : Int))) then
    bif ((decide ((0 : Int) ≤ v0.1)) && (decide (v0.1 < (List.length a.1.2.2.2.2 : Int)))) then
    let v1 : Int := (List.getD a.1.2.2.2.2 (Int.toNat v0.1) 0)
    bindO (R_CurveAt_r fu ((a.1.2.2.2.1, ((IntKind.i64.wrap ((256 : Int) * a.2.1)), ())))) fun v2 =>
    bindO (R_Round_r fu (((IntKind.i64.wrap (v1 * v2.1)), ((65280 : Int), ())))) fun v3 =>
    bif (decide ((((List.length v0.2 : Int) + (List.length (v3.1 :: ([] : List (Int))) : Int)) * (8 : Int)) ≤ (140737488355328 : Int))) then
    j0 (((IntKind.i64.wrap (v0.1 + (1 : Int))), (v0.2 ++ (v3.1 :: ([] : List (Int))))))
    else none
    else none
  else
  some ((v0.2, ()))
def R_SpotProcess_r (fu : Nat) (a : ((List UInt8) × (((Int) × ((Int) × (Int))) × (((Int) × ((Int) × (Int))) × ((List ((Int) × (Int))) × (List (Int)))))) × ((Int) × (Unit))) : Option ((List (Int)) × (Unit)) :=
  loopF (R_SpotProcess_l1 fu a) fu (((0 : Int), ([] : List (Int))))
def R_SpotProcess_an : An := (.n none .z (.n none .z (.n none (.n none .z (.n none (.n (some ⟨[9, 2, 1, 10, 4], [0], [(5, (.osl 1 0))], [.reg 11 (.int .i64), .row 1 true (.int .i64) 3 0], 1, [(5, (.int .i64), 3)]⟩) (.n none .z (.n none .z (.n none (.n none (.n none .z .z) .z) .z))) .z) .z)) (.n none .z .z))))
noncomputable def R_SpotProcess_dc : List (Nat × Ctr) := [(29, R_Round_ctr), (42, R_CurveAt_ctr)]
def R_SpotProcess_ctr : Ctr := ⟨(.pair (.agg (.pair .str (.pair (.pair (.int .i64) (.pair (.int .i64) (.int .i64))) (.pair (.pair (.int .i64) (.pair (.int .i64) (.int .i64))) (.pair (.list (.pair (.int .i64) (.int .i64))) (.list (.int .i64))))))) (.pair (.int .i64) .unit)), (.pair (.list (.int .i64)) .unit), R_SpotProcess_r, 44⟩
theorem R_SpotProcess_ok : CtrOk Try.prog 44 R_SpotProcess_ctr := ctr_ok (l := R_SpotProcess_dc) (f := 12) (an := R_SpotProcess_an) ⟨R_Round_ok, ⟨R_CurveAt_ok, trivial⟩⟩ fun fu x => by kernel_rfl
def law_none_r (fu : Nat) (a : (Bool) × ((Int) × ((Int) × (Unit)))) : Option ((Bool) × (Unit)) :=
  bif a.1 then
    let v0 : Bool := (decide (a.2.1 = a.2.2.1))
    some ((v0, ()))
  else
  some ((false, ()))
def law_none_an : An := (.n none .z (.n none .z .z))
noncomputable def law_none_dc : List (Nat × Ctr) := []
def law_none_ctr : Ctr := ⟨(.pair .bool (.pair (.int .i64) (.pair (.int .i64) .unit))), (.pair .bool .unit), law_none_r, 21⟩
theorem law_none_ok : CtrOk Try.prog 21 law_none_ctr := ctr_ok (l := law_none_dc) (f := 12) (an := law_none_an) trivial fun fu x => by kernel_rfl
def R_Within_r (fu : Nat) (a : (Int) × ((Int) × ((Int) × (Unit)))) : Option ((Bool) × (Unit)) :=
  bif (decide (a.2.1 ≤ a.1)) then
    let v0 : Bool := (decide (a.1 ≤ a.2.2.1))
    some ((v0, ()))
  else
  some ((false, ()))
def R_Within_an : An := (.n none .z (.n none .z .z))
noncomputable def R_Within_dc : List (Nat × Ctr) := []
def R_Within_ctr : Ctr := ⟨(.pair (.int .i64) (.pair (.int .i64) (.pair (.int .i64) .unit))), (.pair .bool .unit), R_Within_r, 20⟩
theorem R_Within_ok : CtrOk Try.prog 20 R_Within_ctr := ctr_ok (l := R_Within_dc) (f := 12) (an := R_Within_an) trivial fun fu x => by kernel_rfl
def R_TonesErr_l1 (fu : Nat) (a : (List (Int)) × ((Int) × ((Int) × (Unit)))) (j0 : (Int) → Option ((Int) × (Unit))) (v0 : Int) : Option ((Int) × (Unit)) :=
  bif (decide (v0 < (List.length a.1 : Int))) then
    bif ((decide ((0 : Int) ≤ v0)) && (decide (v0 < (List.length a.1 : Int)))) then
    let v1 : Int := (List.getD a.1 (Int.toNat v0) 0)
    bindO (R_Within_r fu ((v1, ((0 : Int), (a.2.2.1, ()))))) fun v2 =>
    bif (!v2.1) then
      some (((3 : Int), ()))
    else
    j0 ((IntKind.i64.wrap (v0 + (1 : Int))))
    else none
  else
  some (((0 : Int), ()))
def R_TonesErr_r (fu : Nat) (a : (List (Int)) × ((Int) × ((Int) × (Unit)))) : Option ((Int) × (Unit)) :=
  bif (decide ((List.length a.1 : Int) ≠ a.2.1)) then
    some (((4 : Int), ()))
  else
  loopF (R_TonesErr_l1 fu a) fu ((0 : Int))
def R_TonesErr_an : An := (.n none .z (.n none (.n none .z (.n none (.n none .z .z) .z)) (.n none (.n none .z (.n none (.n (some ⟨[13, 2, 14], [], [], [.reg 15 (.int .i64)], 0, []⟩) (.n none .z (.n none .z (.n none (.n none (.n none .z (.n none .z (.n none (.n none .z .z) .z))) .z) .z))) .z) .z)) (.n none .z .z))))
noncomputable def R_TonesErr_dc : List (Nat × Ctr) := [(20, R_Within_ctr)]
def R_TonesErr_ctr : Ctr := ⟨(.pair (.list (.int .i64)) (.pair (.int .i64) (.pair (.int .i64) .unit))), (.pair (.int .i64) .unit), R_TonesErr_r, 46⟩
theorem R_TonesErr_ok : CtrOk Try.prog 46 R_TonesErr_ctr := ctr_ok (l := R_TonesErr_dc) (f := 12) (an := R_TonesErr_an) ⟨R_Within_ok, trivial⟩ fun fu x => by kernel_rfl
def R_CurveErr_j3 (fu : Nat) (v0 : (Int) × ((Int) × (Int))) (v1 : (Int) × (Int)) (j0 : ((Int) × ((Int) × (Int))) → Option ((Int) × (Unit))) (v3 : Bool) : Option ((Int) × (Unit)) :=
  bif v3 then
    some (((18 : Int), ()))
  else
  let v4 : Int := v1.1
  let v5 : Int := v1.2
  j0 ((v4, (v5, (IntKind.i64.wrap (v0.2.2 + (1 : Int))))))
def R_CurveErr_j2 (fu : Nat) (v0 : (Int) × ((Int) × (Int))) (v1 : (Int) × (Int)) (j0 : ((Int) × ((Int) × (Int))) → Option ((Int) × (Unit))) (v2 : Bool) : Option ((Int) × (Unit)) :=
  bif v2 then
    some (((3 : Int), ()))
  else
  joinF (R_CurveErr_j3 fu v0 v1 j0) fun j3 =>
  bif (decide (v1.1 ≤ v0.1)) then
    j3 (true)
  else
  j3 ((decide (v1.2 < v0.2.1)))
def R_CurveErr_j4 (fu : Nat) (v1 : Bool) : Option ((Int) × (Unit)) :=
  bif v1 then
    some (((4 : Int), ()))
  else
  some (((0 : Int), ()))
def R_CurveErr_l1 (fu : Nat) (a : (List ((Int) × (Int))) × (Unit)) (j0 : ((Int) × ((Int) × (Int))) → Option ((Int) × (Unit))) (v0 : (Int) × ((Int) × (Int))) : Option ((Int) × (Unit)) :=
  bif (decide (v0.2.2 < (List.length a.1 : Int))) then
    bif ((decide ((0 : Int) ≤ v0.2.2)) && (decide (v0.2.2 < (List.length a.1 : Int)))) then
    let v1 : (Int) × (Int) := (List.getD a.1 (Int.toNat v0.2.2) (0, 0))
    joinF (R_CurveErr_j2 fu v0 v1 j0) fun j2 =>
    bindO (R_Within_r fu ((v1.1, ((0 : Int), ((65280 : Int), ()))))) fun v3 =>
    bif (!v3.1) then
      j2 (true)
    else
    bindO (R_Within_r fu ((v1.2, ((0 : Int), ((65280 : Int), ()))))) fun v4 =>
    j2 ((!v4.1))
    else none
  else
  joinF (R_CurveErr_j4 fu) fun j1 =>
  bif (decide ((0 : Int) < (List.length a.1 : Int))) then
  let v2 : (Int) × (Int) := (List.getD a.1 (Int.toNat (0 : Int)) (0, 0))
  bif (decide (v2.1 ≠ (0 : Int))) then
    j1 (true)
  else
  j1 ((decide (v0.1 ≠ (65280 : Int))))
  else none
def R_CurveErr_r (fu : Nat) (a : (List ((Int) × (Int))) × (Unit)) : Option ((Int) × (Unit)) :=
  bif (decide ((33 : Int) < (List.length a.1 : Int))) then
    some (((2 : Int), ()))
  else
  bif (decide ((List.length a.1 : Int) < (2 : Int))) then
    some (((1 : Int), ()))
  else
  loopF (R_CurveErr_l1 fu a) fu (((-1 : Int), ((0 : Int), (0 : Int))))
def R_CurveErr_an : An := (.n none .z (.n none (.n none .z (.n none (.n none .z .z) .z)) (.n none (.n none .z (.n none (.n none .z .z) .z)) (.n none .z (.n none (.n none .z (.n none (.n (some ⟨[1, 16, 17], [0], [], [.reg 3 (.int .i64), .reg 4 (.int .i64), .reg 18 (.int .i64)], 0, []⟩) (.n none .z (.n none .z (.n none (.n none (.n none .z (.n none (.n (some ⟨[3, 4, 6, 18], [1], [], [.reg 31 .bool], 0, []⟩) .z (.n none (.n none .z .z) .z)) (.n none (.n (some ⟨[6, 18, 4, 3], [1], [], [.reg 41 .bool], 0, []⟩) .z (.n none (.n none .z .z) .z)) (.dr [] [])))) .z) .z))) .z) .z)) (.n none (.n (some ⟨[], [0], [], [.reg 56 .bool], 0, []⟩) .z (.n none (.n none .z .z) .z)) (.n none .z .z)))))))
noncomputable def R_CurveErr_dc : List (Nat × Ctr) := [(20, R_Within_ctr)]
def R_CurveErr_ctr : Ctr := ⟨(.pair (.agg (.list (.pair (.int .i64) (.int .i64)))) .unit), (.pair (.int .i64) .unit), R_CurveErr_r, 78⟩
theorem R_CurveErr_ok : CtrOk Try.prog 78 R_CurveErr_ctr := ctr_ok (l := R_CurveErr_dc) (f := 12) (an := R_CurveErr_an) ⟨R_Within_ok, trivial⟩ fun fu x => by kernel_rfl
def R_LabErr_j1 (fu : Nat) (v0 : Bool) : Option ((Int) × (Unit)) :=
  bif v0 then
    some (((3 : Int), ()))
  else
  some (((0 : Int), ()))
def R_LabErr_r (fu : Nat) (a : ((Int) × ((Int) × (Int))) × (Unit)) : Option ((Int) × (Unit)) :=
  joinF (R_LabErr_j1 fu) fun j0 =>
  bindO (R_Within_r fu ((a.1.1, ((0 : Int), ((10000 : Int), ()))))) fun v1 =>
  bif (!v1.1) then
    j0 (true)
  else
  bindO (R_Within_r fu ((a.1.2.1, ((-12800 : Int), ((12800 : Int), ()))))) fun v2 =>
  bif (!v2.1) then
    j0 (true)
  else
  bindO (R_Within_r fu ((a.1.2.2, ((-12800 : Int), ((12800 : Int), ()))))) fun v3 =>
  j0 ((!v3.1))
def R_LabErr_an : An := (.n none .z (.n none (.n (some ⟨[], [0], [], [.reg 18 .bool], 0, []⟩) .z (.n none (.n none .z .z) .z)) (.n none .z .z)))
noncomputable def R_LabErr_dc : List (Nat × Ctr) := [(20, R_Within_ctr)]
def R_LabErr_ctr : Ctr := ⟨(.pair (.agg (.pair (.int .i64) (.pair (.int .i64) (.int .i64)))) .unit), (.pair (.int .i64) .unit), R_LabErr_r, 25⟩
theorem R_LabErr_ok : CtrOk Try.prog 25 R_LabErr_ctr := ctr_ok (l := R_LabErr_dc) (f := 12) (an := R_LabErr_an) ⟨R_Within_ok, trivial⟩ fun fu x => by kernel_rfl
def R_Name_j4 (fu : Nat) (v1 : Int) (j1 : (Int) → Option ((Bool) × (Unit))) (v3 : Bool) : Option ((Bool) × (Unit)) :=
  bif v3 then
    some ((false, ()))
  else
  j1 ((IntKind.i64.wrap (v1 + (1 : Int))))
def R_Name_j3 (fu : Nat) (a : (List UInt8) × (Unit)) (v1 : Int) (j1 : (Int) → Option ((Bool) × (Unit))) (v2 : Bool) : Option ((Bool) × (Unit)) :=
  joinF (R_Name_j4 fu v1 j1) fun j3 =>
  bif (!v2) then
    bif (decide (v1 = (0 : Int))) then
      j3 (true)
    else
    bif ((decide ((0 : Int) ≤ v1)) && (decide (v1 < (List.length a.1 : Int)))) then
    bif (decide (((List.getD a.1 (Int.toNat v1) 0).toNat : Int) ≠ (45 : Int))) then
      bif ((decide ((0 : Int) ≤ v1)) && (decide (v1 < (List.length a.1 : Int)))) then
      bif (decide (((List.getD a.1 (Int.toNat v1) 0).toNat : Int) < (48 : Int))) then
        j3 (true)
      else
      bif ((decide ((0 : Int) ≤ v1)) && (decide (v1 < (List.length a.1 : Int)))) then
      j3 ((decide ((57 : Int) < ((List.getD a.1 (Int.toNat v1) 0).toNat : Int))))
      else none
      else none
    else
    j3 (false)
    else none
  else
  j3 (false)
def R_Name_l2 (fu : Nat) (a : (List UInt8) × (Unit)) (j1 : (Int) → Option ((Bool) × (Unit))) (v1 : Int) : Option ((Bool) × (Unit)) :=
  bif (decide (v1 < (List.length a.1 : Int))) then
    joinF (R_Name_j3 fu a v1 j1) fun j2 =>
    bif ((decide ((0 : Int) ≤ v1)) && (decide (v1 < (List.length a.1 : Int)))) then
    bif (decide ((97 : Int) ≤ ((List.getD a.1 (Int.toNat v1) 0).toNat : Int))) then
      bif ((decide ((0 : Int) ≤ v1)) && (decide (v1 < (List.length a.1 : Int)))) then
      let v3 : Bool := (decide (((List.getD a.1 (Int.toNat v1) 0).toNat : Int) ≤ (122 : Int)))
      j2 (v3)
      else none
    else
    j2 (false)
    else none
  else
  some ((true, ()))
def R_Name_j1 (fu : Nat) (a : (List UInt8) × (Unit)) (v0 : Bool) : Option ((Bool) × (Unit)) :=
  bif v0 then
    some ((false, ()))
  else
  loopF (R_Name_l2 fu a) fu ((0 : Int))
def R_Name_r (fu : Nat) (a : (List UInt8) × (Unit)) : Option ((Bool) × (Unit)) :=
  joinF (R_Name_j1 fu a) fun j0 =>
  bif (decide ((List.length a.1 : Int) < (1 : Int))) then
    j0 (true)
  else
  j0 ((decide ((16 : Int) < (List.length a.1 : Int))))
def R_Name_an : An := (.n none .z (.n none (.n (some ⟨[0], [], [], [.reg 12 .bool], 0, []⟩) .z (.n none (.n none .z .z) .z)) (.n none (.n none .z (.n none (.n (some ⟨[0, 14], [], [], [.reg 15 (.int .i64)], 0, []⟩) (.n none .z (.n none .z (.n none (.n none (.n none .z (.n (some ⟨[3, 15], [], [], [.reg 4 .bool], 0, []⟩) .z (.n (some ⟨[], [], [], [.reg 51 .bool], 0, []⟩) .z (.n none (.n none .z .z) .z)))) .z) .z))) .z) .z)) (.n none .z .z))))
noncomputable def R_Name_dc : List (Nat × Ctr) := []
def R_Name_ctr : Ctr := ⟨(.pair .str .unit), (.pair .bool .unit), R_Name_r, 77⟩
theorem R_Name_ok : CtrOk Try.prog 77 R_Name_ctr := ctr_ok (l := R_Name_dc) (f := 12) (an := R_Name_an) trivial fun fu x => by kernel_rfl
def R_SpotErr_j1 (fu : Nat) (a : ((List UInt8) × (((Int) × ((Int) × (Int))) × (((Int) × ((Int) × (Int))) × ((List ((Int) × (Int))) × (List (Int)))))) × (Unit)) (v1 : Bool) : Option ((Int) × (Unit)) :=
  bif v1 then
    some (((3 : Int), ()))
  else
  bindO (R_CurveErr_r fu ((a.1.2.2.2.1, ()))) fun v2 =>
  let v3 : Int := v2.1
  bif (decide (v3 ≠ (0 : Int))) then
    some ((v3, ()))
  else
  bif (decide ((8 : Int) < (List.length a.1.2.2.2.2 : Int))) then
    some (((2 : Int), ()))
  else
  bindO (R_TonesErr_r fu ((a.1.2.2.2.2, ((List.length a.1.2.2.2.2 : Int), ((255 : Int), ()))))) fun v4 =>
  let v5 : Int := v4.1
  some ((v5, ()))
def R_SpotErr_r (fu : Nat) (a : ((List UInt8) × (((Int) × ((Int) × (Int))) × (((Int) × ((Int) × (Int))) × ((List ((Int) × (Int))) × (List (Int)))))) × (Unit)) : Option ((Int) × (Unit)) :=
  bindO (R_Name_r fu ((a.1.1, ()))) fun v0 =>
  bif (!v0.1) then
    some (((6 : Int), ()))
  else
  joinF (R_SpotErr_j1 fu a) fun j1 =>
  bindO (R_LabErr_r fu (((a.1.2.1.1, (a.1.2.1.2.1, a.1.2.1.2.2)), ()))) fun v2 =>
  bif (decide (v2.1 ≠ (0 : Int))) then
    j1 (true)
  else
  bindO (R_LabErr_r fu (((a.1.2.2.1.1, (a.1.2.2.1.2.1, a.1.2.2.1.2.2)), ()))) fun v3 =>
  j1 ((decide (v3.1 ≠ (0 : Int))))
def R_SpotErr_an : An := (.n none .z (.n none (.n none .z (.n none (.n none .z .z) .z)) (.n none (.n (some ⟨[1], [0], [], [.reg 17 .bool], 0, []⟩) .z (.n none (.n none .z .z) .z)) (.n none (.n none .z (.n none .z (.n none (.n none .z .z) .z))) (.n none (.n none .z (.n none (.n none .z .z) .z)) (.n none .z .z))))))
noncomputable def R_SpotErr_dc : List (Nat × Ctr) := [(25, R_LabErr_ctr), (46, R_TonesErr_ctr), (77, R_Name_ctr), (78, R_CurveErr_ctr)]
def R_SpotErr_ctr : Ctr := ⟨(.pair (.agg (.pair .str (.pair (.pair (.int .i64) (.pair (.int .i64) (.int .i64))) (.pair (.pair (.int .i64) (.pair (.int .i64) (.int .i64))) (.pair (.list (.pair (.int .i64) (.int .i64))) (.list (.int .i64))))))) .unit), (.pair (.int .i64) .unit), R_SpotErr_r, 41⟩
theorem R_SpotErr_ok : CtrOk Try.prog 41 R_SpotErr_ctr := ctr_ok (l := R_SpotErr_dc) (f := 12) (an := R_SpotErr_an) ⟨R_LabErr_ok, ⟨R_TonesErr_ok, ⟨R_Name_ok, ⟨R_CurveErr_ok, trivial⟩⟩⟩⟩ fun fu x => by kernel_rfl
def curve_Nearest_j1 (fu : Nat) (v3 : Int) : Option ((Int) × (Unit)) :=
  some ((v3, ()))
def curve_Nearest_r (fu : Nat) (a : (Int) × ((Int) × (Unit))) : Option ((Int) × (Unit)) :=
  let v0 : Int := (IntKind.i64.wrap ((IntKind.i64.wrap ((2 : Int) * a.1)) + a.2.1))
  let v1 : Int := (IntKind.i64.wrap ((2 : Int) * a.2.1))
  bif (decide (v1 ≠ (0 : Int))) then
  let v2 : Int := (IntKind.i64.wrap (Int.tdiv v0 v1))
  joinF (curve_Nearest_j1 fu) fun j3 =>
  bif (decide (v1 ≠ (0 : Int))) then
  bif (decide ((Int.tmod v0 v1) < (0 : Int))) then
    let v4 : Int := (IntKind.i64.wrap (v2 - (1 : Int)))
    j3 (v4)
  else
  j3 (v2)
  else none
  else none
def curve_Nearest_an : An := (.n none .z (.n none .z (.n none .z (.n (some ⟨[], [], [], [.reg 5 (.int .i64)], 0, []⟩) (.n none .z (.n none .z .z)) (.n none .z .z)))))
noncomputable def curve_Nearest_dc : List (Nat × Ctr) := []
def curve_Nearest_ctr : Ctr := ⟨(.pair (.int .i64) (.pair (.int .i64) .unit)), (.pair (.int .i64) .unit), curve_Nearest_r, 70⟩
theorem curve_Nearest_ok : CtrOk Try.prog 70 curve_Nearest_ctr := ctr_ok (l := curve_Nearest_dc) (f := 12) (an := curve_Nearest_an) trivial fun fu x => by kernel_rfl
def curve_Raw_l1 (fu : Nat) (a : (List ((Int) × (Int))) × ((Int) × (Unit))) (j1 : ((Int) × (Int)) → Option ((Int) × (Unit))) (v1 : (Int) × (Int)) : Option ((Int) × (Unit)) :=
  bif (decide ((1 : Int) < (IntKind.i64.wrap (v1.1 - v1.2)))) then
    let v2 : Int := (IntKind.i64.wrap (Int.tdiv (IntKind.i64.wrap (v1.2 + v1.1)) (2 : Int)))
    bif ((decide ((0 : Int) ≤ v2)) && (decide (v2 < (List.length a.1 : Int)))) then
    let v3 : (Int) × (Int) := (List.getD a.1 (Int.toNat v2) (0, 0))
    bif (decide (v3.1 ≤ a.2.1)) then
      j1 ((v1.1, v2))
    else
    j1 ((v2, v1.2))
    else none
  else
  bif ((decide ((0 : Int) ≤ v1.2)) && (decide (v1.2 < (List.length a.1 : Int)))) then
  let v2 : (Int) × (Int) := (List.getD a.1 (Int.toNat v1.2) (0, 0))
  bif ((decide ((0 : Int) ≤ v1.1)) && (decide (v1.1 < (List.length a.1 : Int)))) then
  let v3 : (Int) × (Int) := (List.getD a.1 (Int.toNat v1.1) (0, 0))
  bindO (curve_Nearest_r fu (((IntKind.i64.wrap ((IntKind.i64.wrap (v3.2 - v2.2)) * (IntKind.i64.wrap (a.2.1 - v2.1)))), ((IntKind.i64.wrap (v3.1 - v2.1)), ())))) fun v4 =>
  let v5 : Int := (IntKind.i64.wrap (v2.2 + v4.1))
  some ((v5, ()))
  else none
  else none
def curve_Raw_r (fu : Nat) (a : (List ((Int) × (Int))) × ((Int) × (Unit))) : Option ((Int) × (Unit)) :=
  let v0 : Int := (IntKind.i64.wrap ((List.length a.1 : Int) - (1 : Int)))
  loopF (curve_Raw_l1 fu a) fu ((v0, (0 : Int)))
def curve_Raw_an : An := (.n none .z (.n none (.dr [] []) (.n none (.n none (.n (some ⟨[1, 2, 4], [0], [], [.reg 6 (.int .i64), .reg 5 (.int .i64)], 0, []⟩) (.n none (.n none .z .z) (.n none (.n none .z (.n none .z (.n none .z .z))) .z)) .z) .z) (.n none (.dr [] []) (.n none (.dr [] []) .z)))))
noncomputable def curve_Raw_dc : List (Nat × Ctr) := [(70, curve_Nearest_ctr)]
def curve_Raw_ctr : Ctr := ⟨(.pair (.agg (.list (.pair (.int .i64) (.int .i64)))) (.pair (.int .i64) .unit)), (.pair (.int .i64) .unit), curve_Raw_r, 75⟩
theorem curve_Raw_ok : CtrOk Try.prog 75 curve_Raw_ctr := ctr_ok (l := curve_Raw_dc) (f := 12) (an := curve_Raw_an) ⟨curve_Nearest_ok, trivial⟩ fun fu x => by kernel_rfl
def spot_Quick_l1 (fu : Nat) (a : ((List UInt8) × (((Int) × ((Int) × (Int))) × (((Int) × ((Int) × (Int))) × ((List ((Int) × (Int))) × (List (Int)))))) × ((Int) × (Unit))) (j0 : ((Int) × (List (Int))) → Option ((List (Int)) × (Unit))) (v0 : (Int) × (List (Int))) : Option ((List (Int)) × (Unit)) :=
  bif (decide (v0.1 < (List.length a.1.2.2.2.2 : Int))) then
    bif ((decide ((0 : Int) ≤ v0.1)) && (decide (v0.1 < (List.length a.1.2.2.2.2 : Int)))) then
    let v1 : Int := (List.getD a.1.2.2.2.2 (Int.toNat v0.1) 0)
    let v2 : Int := v0.1
    bindO (curve_Raw_r fu ((a.1.2.2.2.1, ((IntKind.i64.wrap ((256 : Int) * a.2.1)), ())))) fun v3 =>
    bindO (curve_Nearest_r fu (((IntKind.i64.wrap (v1 * v3.1)), ((65280 : Int), ())))) fun v4 =>
    bif ((decide ((0 : Int) ≤ v2)) && (decide (v2 < (List.length v0.2 : Int)))) then
    j0 (((IntKind.i64.wrap (v0.1 + (1 : Int))), (List.set v0.2 (Int.toNat v2) v4.1)))
    else none
    else none
  else
  some ((v0.2, ()))
def spot_Quick_r (fu : Nat) (a : ((List UInt8) × (((Int) × ((Int) × (Int))) × (((Int) × ((Int) × (Int))) × ((List ((Int) × (Int))) × (List (Int)))))) × ((Int) × (Unit))) : Option ((List (Int)) × (Unit)) :=
  bif ((decide ((0 : Int) ≤ (List.length a.1.2.2.2.2 : Int))) && (decide (((8 : Int) * (List.length a.1.2.2.2.2 : Int)) ≤ (281474976710656 : Int)))) then
  loopF (spot_Quick_l1 fu a) fu (((0 : Int), (List.replicate (Int.toNat (List.length a.1.2.2.2.2 : Int)) (0 : Int))))
  else none
def spot_Quick_an : An := (.n none .z (.n none .z (.n none (.n none .z (.n none (.n (some ⟨[5, 17, 0, 1, 18, 4], [], [], [.reg 19 (.int .i64), .row 0 true (.int .i64) 3 0], 0, []⟩) (.n none .z (.n none .z (.n none (.n none (.n none .z .z) .z) .z))) .z) .z)) (.n none .z .z))))
noncomputable def spot_Quick_dc : List (Nat × Ctr) := [(70, curve_Nearest_ctr), (75, curve_Raw_ctr)]
def spot_Quick_ctr : Ctr := ⟨(.pair (.ptr (.pair .str (.pair (.pair (.int .i64) (.pair (.int .i64) (.int .i64))) (.pair (.pair (.int .i64) (.pair (.int .i64) (.int .i64))) (.pair (.list (.pair (.int .i64) (.int .i64))) (.list (.int .i64))))))) (.pair (.int .i64) .unit)), (.pair (.list (.int .i64)) .unit), spot_Quick_r, 76⟩
theorem spot_Quick_ok : CtrOk Try.prog 76 spot_Quick_ctr := ctr_ok (l := spot_Quick_dc) (f := 12) (an := spot_Quick_an) ⟨curve_Nearest_ok, ⟨curve_Raw_ok, trivial⟩⟩ fun fu x => by kernel_rfl
def profile_Tones_j2 (fu : Nat) (v0 : Int) (j0 : (Int) → Option ((Int) × (Unit))) (v2 : Bool) : Option ((Int) × (Unit)) :=
  bif v2 then
    some (((3 : Int), ()))
  else
  j0 ((IntKind.i64.wrap (v0 + (1 : Int))))
def profile_Tones_l1 (fu : Nat) (a : (List (Int)) × ((Int) × (Unit))) (j0 : (Int) → Option ((Int) × (Unit))) (v0 : Int) : Option ((Int) × (Unit)) :=
  bif (decide (v0 < (List.length a.1 : Int))) then
    bif ((decide ((0 : Int) ≤ v0)) && (decide (v0 < (List.length a.1 : Int)))) then
    let v1 : Int := (List.getD a.1 (Int.toNat v0) 0)
    joinF (profile_Tones_j2 fu v0 j0) fun j2 =>
    bif (decide (v1 < (0 : Int))) then
      j2 (true)
    else
    j2 ((decide ((255 : Int) < v1)))
    else none
  else
  some (((0 : Int), ()))
def profile_Tones_r (fu : Nat) (a : (List (Int)) × ((Int) × (Unit))) : Option ((Int) × (Unit)) :=
  bif (decide ((List.length a.1 : Int) ≠ a.2.1)) then
    some (((4 : Int), ()))
  else
  loopF (profile_Tones_l1 fu a) fu ((0 : Int))
def profile_Tones_an : An := (.n none .z (.n none (.n none .z (.n none (.n none .z .z) .z)) (.n none (.n none .z (.n none (.n (some ⟨[11, 12], [], [], [.reg 13 (.int .i64)], 0, []⟩) (.n none .z (.n none .z (.n none (.n none (.n none .z (.n (some ⟨[13], [], [], [.reg 22 .bool], 0, []⟩) .z (.n none (.n none .z .z) .z))) .z) .z))) .z) .z)) (.n none .z .z))))
noncomputable def profile_Tones_dc : List (Nat × Ctr) := []
def profile_Tones_ctr : Ctr := ⟨(.pair (.list (.int .i64)) (.pair (.int .i64) .unit)), (.pair (.int .i64) .unit), profile_Tones_r, 79⟩
theorem profile_Tones_ok : CtrOk Try.prog 79 profile_Tones_ctr := ctr_ok (l := profile_Tones_dc) (f := 12) (an := profile_Tones_an) trivial fun fu x => by kernel_rfl
def curve_Check_j3 (fu : Nat) (v3 : Int) (j3 : (Int) → Option ((Int) × (Unit))) (v6 : Bool) : Option ((Int) × (Unit)) :=
  bif v6 then
    some (((18 : Int), ()))
  else
  j3 ((IntKind.i64.wrap (v3 + (1 : Int))))
def curve_Check_j2 (fu : Nat) (a : (List ((Int) × (Int))) × (Unit)) (v3 : Int) (v4 : (Int) × (Int)) (j3 : (Int) → Option ((Int) × (Unit))) (v5 : Bool) : Option ((Int) × (Unit)) :=
  bif v5 then
    some (((3 : Int), ()))
  else
  joinF (curve_Check_j3 fu v3 j3) fun j6 =>
  bif (decide ((0 : Int) < v3)) then
    bif ((decide ((0 : Int) ≤ (IntKind.i64.wrap (v3 - (1 : Int))))) && (decide ((IntKind.i64.wrap (v3 - (1 : Int))) < (List.length a.1 : Int)))) then
    let v7 : (Int) × (Int) := (List.getD a.1 (Int.toNat (IntKind.i64.wrap (v3 - (1 : Int)))) (0, 0))
    bif (decide (v4.1 ≤ v7.1)) then
      j6 (true)
    else
    bif ((decide ((0 : Int) ≤ (IntKind.i64.wrap (v3 - (1 : Int))))) && (decide ((IntKind.i64.wrap (v3 - (1 : Int))) < (List.length a.1 : Int)))) then
    let v8 : (Int) × (Int) := (List.getD a.1 (Int.toNat (IntKind.i64.wrap (v3 - (1 : Int)))) (0, 0))
    j6 ((decide (v4.2 < v8.2)))
    else none
    else none
  else
  j6 (false)
def curve_Check_j4 (fu : Nat) (v4 : Bool) : Option ((Int) × (Unit)) :=
  bif v4 then
    some (((4 : Int), ()))
  else
  some (((0 : Int), ()))
def curve_Check_l1 (fu : Nat) (a : (List ((Int) × (Int))) × (Unit)) (j3 : (Int) → Option ((Int) × (Unit))) (v3 : Int) : Option ((Int) × (Unit)) :=
  bif (decide (v3 < (List.length a.1 : Int))) then
    bif ((decide ((0 : Int) ≤ v3)) && (decide (v3 < (List.length a.1 : Int)))) then
    let v4 : (Int) × (Int) := (List.getD a.1 (Int.toNat v3) (0, 0))
    joinF (curve_Check_j2 fu a v3 v4 j3) fun j5 =>
    bif (decide (v4.1 < (0 : Int))) then
      j5 (true)
    else
    bif (decide ((65280 : Int) < v4.1)) then
      j5 (true)
    else
    bif (decide (v4.2 < (0 : Int))) then
      j5 (true)
    else
    j5 ((decide ((65280 : Int) < v4.2)))
    else none
  else
  joinF (curve_Check_j4 fu) fun j4 =>
  bif (decide ((0 : Int) < (List.length a.1 : Int))) then
  let v5 : (Int) × (Int) := (List.getD a.1 (Int.toNat (0 : Int)) (0, 0))
  bif (decide (v5.1 ≠ (0 : Int))) then
    j4 (true)
  else
  bif ((decide ((0 : Int) ≤ (IntKind.i64.wrap ((List.length a.1 : Int) - (1 : Int))))) && (decide ((IntKind.i64.wrap ((List.length a.1 : Int) - (1 : Int))) < (List.length a.1 : Int)))) then
  let v6 : (Int) × (Int) := (List.getD a.1 (Int.toNat (IntKind.i64.wrap ((List.length a.1 : Int) - (1 : Int)))) (0, 0))
  j4 ((decide (v6.1 ≠ (65280 : Int))))
  else none
  else none
def curve_Check_r (fu : Nat) (a : (List ((Int) × (Int))) × (Unit)) : Option ((Int) × (Unit)) :=
  let v0 : Int := (List.length a.1 : Int)
  let v1 : Bool := (decide ((33 : Int) < v0))
  bif v1 then
    some (((2 : Int), ()))
  else
  let v2 : Bool := (decide (v0 < (2 : Int)))
  bif v2 then
    some (((1 : Int), ()))
  else
  loopF (curve_Check_l1 fu a) fu ((0 : Int))
def curve_Check_an : An := (.n none .z (.n none (.n none .z (.n none (.n none .z (.n none (.n none .z .z) (.n none .z (.n none (.n none .z .z) .z)))) .z)) (.n none (.n none .z (.n none (.n (some ⟨[1, 16, 17], [0], [], [.reg 18 (.int .i64)], 0, []⟩) (.n none .z (.n none .z (.n none (.n none (.n none .z (.n none (.n (some ⟨[5, 4, 18], [1], [], [.reg 40 .bool], 0, []⟩) .z (.n none (.n none .z .z) .z)) (.n (some ⟨[18], [1], [], [.reg 66 .bool], 0, []⟩) (.dr [] []) (.n none (.n none .z .z) .z)))) .z) .z))) .z) .z)) (.n none (.n (some ⟨[], [0], [], [.reg 85 .bool], 0, []⟩) .z (.n none (.n none .z .z) .z)) (.n none .z .z)))))
noncomputable def curve_Check_dc : List (Nat × Ctr) := []
def curve_Check_ctr : Ctr := ⟨(.pair (.agg (.list (.pair (.int .i64) (.int .i64)))) .unit), (.pair (.int .i64) .unit), curve_Check_r, 93⟩
theorem curve_Check_ok : CtrOk Try.prog 93 curve_Check_ctr := ctr_ok (l := curve_Check_dc) (f := 12) (an := curve_Check_an) trivial fun fu x => by kernel_rfl
def refspace_Check_j1 (fu : Nat) (v0 : Bool) : Option ((Int) × (Unit)) :=
  bif v0 then
    some (((3 : Int), ()))
  else
  some (((0 : Int), ()))
def refspace_Check_r (fu : Nat) (a : ((Int) × ((Int) × (Int))) × (Unit)) : Option ((Int) × (Unit)) :=
  joinF (refspace_Check_j1 fu) fun j0 =>
  bif (decide (a.1.1 < (0 : Int))) then
    j0 (true)
  else
  bif (decide ((10000 : Int) < a.1.1)) then
    j0 (true)
  else
  bif (decide (a.1.2.1 < (-12800 : Int))) then
    j0 (true)
  else
  bif (decide ((12800 : Int) < a.1.2.1)) then
    j0 (true)
  else
  bif (decide (a.1.2.2 < (-12800 : Int))) then
    j0 (true)
  else
  j0 ((decide ((12800 : Int) < a.1.2.2)))
def refspace_Check_an : An := (.n none .z (.n none (.n (some ⟨[], [0], [], [.reg 30 .bool], 0, []⟩) .z (.n none (.n none .z .z) .z)) (.n none .z .z)))
noncomputable def refspace_Check_dc : List (Nat × Ctr) := []
def refspace_Check_ctr : Ctr := ⟨(.pair (.agg (.pair (.int .i64) (.pair (.int .i64) (.int .i64)))) .unit), (.pair (.int .i64) .unit), refspace_Check_r, 26⟩
theorem refspace_Check_ok : CtrOk Try.prog 26 refspace_Check_ctr := ctr_ok (l := refspace_Check_dc) (f := 12) (an := refspace_Check_an) trivial fun fu x => by kernel_rfl
def profile_IsName_j3 (fu : Nat) (v1 : Int) (j1 : (Int) → Option ((Bool) × (Unit))) (v3 : Bool) : Option ((Bool) × (Unit)) :=
  bif v3 then
    some ((false, ()))
  else
  j1 ((IntKind.i64.wrap (v1 + (1 : Int))))
def profile_IsName_l2 (fu : Nat) (a : (List UInt8) × (Unit)) (j1 : (Int) → Option ((Bool) × (Unit))) (v1 : Int) : Option ((Bool) × (Unit)) :=
  bif (decide (v1 < (List.length a.1 : Int))) then
    bif ((decide ((0 : Int) ≤ v1)) && (decide (v1 < (List.length a.1 : Int)))) then
    let v2 : Int := ((List.getD a.1 (Int.toNat v1) 0).toNat : Int)
    joinF (profile_IsName_j3 fu v1 j1) fun j3 =>
    bif (decide (v2 < (97 : Int))) then
      bif (decide (v2 < (48 : Int))) then
        j3 ((decide (v2 ≠ (45 : Int))))
      else
      bif (decide ((57 : Int) < v2)) then
        j3 ((decide (v2 ≠ (45 : Int))))
      else
      j3 (false)
    else
    bif (decide ((122 : Int) < v2)) then
      bif (decide (v2 < (48 : Int))) then
        j3 ((decide (v2 ≠ (45 : Int))))
      else
      bif (decide ((57 : Int) < v2)) then
        j3 ((decide (v2 ≠ (45 : Int))))
      else
      j3 (false)
    else
    j3 (false)
    else none
  else
  some ((true, ()))
def profile_IsName_j1 (fu : Nat) (a : (List UInt8) × (Unit)) (v0 : Bool) : Option ((Bool) × (Unit)) :=
  bif v0 then
    some ((false, ()))
  else
  loopF (profile_IsName_l2 fu a) fu ((0 : Int))
def profile_IsName_r (fu : Nat) (a : (List UInt8) × (Unit)) : Option ((Bool) × (Unit)) :=
  joinF (profile_IsName_j1 fu a) fun j0 =>
  bif (decide ((List.length a.1 : Int) < (1 : Int))) then
    j0 (true)
  else
  bif (decide ((16 : Int) < (List.length a.1 : Int))) then
    j0 (true)
  else
  bif (decide ((0 : Int) < (List.length a.1 : Int))) then
  bif (decide (((List.getD a.1 (Int.toNat (0 : Int)) 0).toNat : Int) < (97 : Int))) then
    j0 (true)
  else
  bif (decide ((0 : Int) < (List.length a.1 : Int))) then
  j0 ((decide ((122 : Int) < ((List.getD a.1 (Int.toNat (0 : Int)) 0).toNat : Int))))
  else none
  else none
def profile_IsName_an : An := (.n none .z (.n none (.n (some ⟨[0], [], [], [.reg 22 .bool], 0, []⟩) .z (.n none (.n none .z .z) .z)) (.n none (.n none .z (.n none (.n (some ⟨[0, 24], [], [], [.reg 25 (.int .i64)], 0, []⟩) (.n none .z (.n none .z (.n none (.n none (.n none .z (.n none .z (.n (some ⟨[25], [], [], [.reg 48 .bool], 0, []⟩) .z (.n none (.n none .z .z) .z)))) .z) .z))) .z) .z)) (.n none .z .z))))
noncomputable def profile_IsName_dc : List (Nat × Ctr) := []
def profile_IsName_ctr : Ctr := ⟨(.pair .str .unit), (.pair .bool .unit), profile_IsName_r, 92⟩
theorem profile_IsName_ok : CtrOk Try.prog 92 profile_IsName_ctr := ctr_ok (l := profile_IsName_dc) (f := 12) (an := profile_IsName_an) trivial fun fu x => by kernel_rfl
def spot_one_r (fu : Nat) (a : ((List UInt8) × (((Int) × ((Int) × (Int))) × (((Int) × ((Int) × (Int))) × ((List ((Int) × (Int))) × (List (Int)))))) × (Unit)) : Option ((Int) × (Unit)) :=
  bindO (profile_IsName_r fu ((a.1.1, ()))) fun v0 =>
  bif (!v0.1) then
    some (((6 : Int), ()))
  else
  bindO (refspace_Check_r fu (((a.1.2.1.1, (a.1.2.1.2.1, a.1.2.1.2.2)), ()))) fun v1 =>
  let v2 : Int := v1.1
  bif (decide (v2 ≠ (0 : Int))) then
    some ((v2, ()))
  else
  bindO (refspace_Check_r fu (((a.1.2.2.1.1, (a.1.2.2.1.2.1, a.1.2.2.1.2.2)), ()))) fun v3 =>
  let v4 : Int := v3.1
  bif (decide (v4 ≠ (0 : Int))) then
    some ((v4, ()))
  else
  bindO (curve_Check_r fu ((a.1.2.2.2.1, ()))) fun v5 =>
  let v6 : Int := v5.1
  bif (decide (v6 ≠ (0 : Int))) then
    some ((v6, ()))
  else
  bif (decide ((8 : Int) < (List.length a.1.2.2.2.2 : Int))) then
    some (((2 : Int), ()))
  else
  bindO (profile_Tones_r fu ((a.1.2.2.2.2, ((List.length a.1.2.2.2.2 : Int), ())))) fun v7 =>
  let v8 : Int := v7.1
  some ((v8, ()))
def spot_one_an : An := (.n none .z (.n none (.n none .z (.n none (.n none .z .z) .z)) (.n none (.n none .z (.n none .z (.n none (.n none .z .z) .z))) (.n none (.n none .z (.n none .z (.n none (.n none .z .z) .z))) (.n none (.n none .z (.n none .z (.n none (.n none .z .z) .z))) (.n none (.n none .z (.n none (.n none .z .z) .z)) (.n none (.dr [] []) .z)))))))
noncomputable def spot_one_dc : List (Nat × Ctr) := [(26, refspace_Check_ctr), (79, profile_Tones_ctr), (92, profile_IsName_ctr), (93, curve_Check_ctr)]
def spot_one_ctr : Ctr := ⟨(.pair (.ptr (.pair .str (.pair (.pair (.int .i64) (.pair (.int .i64) (.int .i64))) (.pair (.pair (.int .i64) (.pair (.int .i64) (.int .i64))) (.pair (.list (.pair (.int .i64) (.int .i64))) (.list (.int .i64))))))) .unit), (.pair (.int .i64) .unit), spot_one_r, 74⟩
theorem spot_one_ok : CtrOk Try.prog 74 spot_one_ctr := ctr_ok (l := spot_one_dc) (f := 12) (an := spot_one_an) ⟨refspace_Check_ok, ⟨profile_Tones_ok, ⟨profile_IsName_ok, ⟨curve_Check_ok, trivial⟩⟩⟩⟩ fun fu x => by kernel_rfl
def spot_Process_j1 (fu : Nat) (a : ((List UInt8) × (((Int) × ((Int) × (Int))) × (((Int) × ((Int) × (Int))) × ((List ((Int) × (Int))) × (List (Int)))))) × ((Int) × (Unit))) (v2 : Bool) : Option ((List (Int)) × ((Int) × (Unit))) :=
  bif v2 then
    some ((([] : List (Int)), ((3 : Int), ())))
  else
  bindO (spot_Quick_r fu (((a.1.1, ((a.1.2.1.1, (a.1.2.1.2.1, a.1.2.1.2.2)), ((a.1.2.2.1.1, (a.1.2.2.1.2.1, a.1.2.2.1.2.2)), (a.1.2.2.2.1, a.1.2.2.2.2)))), (a.2.1, ())))) fun v3 =>
  let v4 : List (Int) := v3.1
  some ((v4, ((0 : Int), ())))
def spot_Process_r (fu : Nat) (a : ((List UInt8) × (((Int) × ((Int) × (Int))) × (((Int) × ((Int) × (Int))) × ((List ((Int) × (Int))) × (List (Int)))))) × ((Int) × (Unit))) : Option ((List (Int)) × ((Int) × (Unit))) :=
  bindO (spot_one_r fu (((a.1.1, ((a.1.2.1.1, (a.1.2.1.2.1, a.1.2.1.2.2)), ((a.1.2.2.1.1, (a.1.2.2.1.2.1, a.1.2.2.1.2.2)), (a.1.2.2.2.1, a.1.2.2.2.2)))), ()))) fun v0 =>
  let v1 : Int := v0.1
  bif (decide (v1 ≠ (0 : Int))) then
    some ((([] : List (Int)), (v1, ())))
  else
  joinF (spot_Process_j1 fu a) fun j2 =>
  bif (decide (a.2.1 < (0 : Int))) then
    j2 (true)
  else
  j2 ((decide ((255 : Int) < a.2.1)))
def spot_Process_an : An := (.n none .z (.n none (.n none .z (.n none .z (.n none (.n none .z .z) .z))) (.n none (.n (some ⟨[1, 2], [0], [], [.reg 16 .bool], 0, []⟩) .z (.n none (.n none .z .z) .z)) (.n none .z .z))))
noncomputable def spot_Process_dc : List (Nat × Ctr) := [(74, spot_one_ctr), (76, spot_Quick_ctr)]
def spot_Process_ctr : Ctr := ⟨(.pair (.agg (.pair .str (.pair (.pair (.int .i64) (.pair (.int .i64) (.int .i64))) (.pair (.pair (.int .i64) (.pair (.int .i64) (.int .i64))) (.pair (.list (.pair (.int .i64) (.int .i64))) (.list (.int .i64))))))) (.pair (.int .i64) .unit)), (.pair (.list (.int .i64)) (.pair (.int .i64) .unit)), spot_Process_r, 40⟩
theorem spot_Process_ok : CtrOk Try.prog 40 spot_Process_ctr := ctr_ok (l := spot_Process_dc) (f := 12) (an := spot_Process_an) ⟨spot_one_ok, ⟨spot_Quick_ok, trivial⟩⟩ fun fu x => by kernel_rfl
def refspace_Between_1_r (fu : Nat) (a : (Int) × ((Int) × ((Int) × ((Int) × (Unit))))) : Option ((Int) × (Unit)) :=
  bindO (curve_Nearest_r fu (((IntKind.i64.wrap ((IntKind.i64.wrap ((IntKind.i64.wrap (a.2.2.1 - a.2.2.2.1)) * a.1)) + (IntKind.i64.wrap (a.2.2.2.1 * a.2.1)))), (a.2.2.1, ())))) fun v0 =>
  let v1 : Int := v0.1
  some ((v1, ()))
def refspace_Between_1_an : An := (.n none .z (.n none .z .z))
noncomputable def refspace_Between_1_dc : List (Nat × Ctr) := [(70, curve_Nearest_ctr)]
def refspace_Between_1_ctr : Ctr := ⟨(.pair (.int .i64) (.pair (.int .i64) (.pair (.ptr (.int .i64)) (.pair (.ptr (.int .i64)) .unit)))), (.pair (.int .i64) .unit), refspace_Between_1_r, 72⟩
theorem refspace_Between_1_ok : CtrOk Try.prog 72 refspace_Between_1_ctr := ctr_ok (l := refspace_Between_1_dc) (f := 12) (an := refspace_Between_1_an) ⟨curve_Nearest_ok, trivial⟩ fun fu x => by kernel_rfl
def refspace_Between_j1 (fu : Nat) (a : ((Int) × ((Int) × (Int))) × (((Int) × ((Int) × (Int))) × ((Int) × ((Int) × (Unit))))) (v4 : Bool) : Option (((Int) × ((Int) × (Int))) × ((Int) × (Unit))) :=
  bif v4 then
    some ((((0 : Int), ((0 : Int), (0 : Int))), ((3 : Int), ())))
  else
  bindO (refspace_Between_1_r fu ((a.1.1, (a.2.1.1, (a.2.2.2.1, (a.2.2.1, ())))))) fun v5 =>
  bindO (refspace_Between_1_r fu ((a.1.2.1, (a.2.1.2.1, (a.2.2.2.1, (a.2.2.1, ())))))) fun v6 =>
  bindO (refspace_Between_1_r fu ((a.1.2.2, (a.2.1.2.2, (a.2.2.2.1, (a.2.2.1, ())))))) fun v7 =>
  some (((v5.1, (v6.1, v7.1)), ((0 : Int), ())))
def refspace_Between_r (fu : Nat) (a : ((Int) × ((Int) × (Int))) × (((Int) × ((Int) × (Int))) × ((Int) × ((Int) × (Unit))))) : Option (((Int) × ((Int) × (Int))) × ((Int) × (Unit))) :=
  bindO (refspace_Check_r fu (((a.1.1, (a.1.2.1, a.1.2.2)), ()))) fun v0 =>
  let v1 : Int := v0.1
  bif (decide (v1 ≠ (0 : Int))) then
    some ((((0 : Int), ((0 : Int), (0 : Int))), (v1, ())))
  else
  bindO (refspace_Check_r fu (((a.2.1.1, (a.2.1.2.1, a.2.1.2.2)), ()))) fun v2 =>
  let v3 : Int := v2.1
  bif (decide (v3 ≠ (0 : Int))) then
    some ((((0 : Int), ((0 : Int), (0 : Int))), (v3, ())))
  else
  joinF (refspace_Between_j1 fu a) fun j4 =>
  bif (decide (a.2.2.2.1 < (1 : Int))) then
    j4 (true)
  else
  bif (decide ((65280 : Int) < a.2.2.2.1)) then
    j4 (true)
  else
  bif (decide (a.2.2.1 < (0 : Int))) then
    j4 (true)
  else
  j4 ((decide (a.2.2.2.1 < a.2.2.1)))
def refspace_Between_an : An := (.n none .z (.n none (.n none .z (.n none .z (.n none (.n none .z .z) .z))) (.n none (.n none .z (.n none .z (.n none (.n none .z .z) .z))) (.n none (.n (some ⟨[6, 7, 4, 5, 8], [0, 1, 2, 3, 4], [], [.reg 39 .bool], 0, []⟩) .z (.n none (.n none .z .z) .z)) (.n none .z (.n none (.dr [] []) .z))))))
noncomputable def refspace_Between_dc : List (Nat × Ctr) := [(26, refspace_Check_ctr), (72, refspace_Between_1_ctr)]
def refspace_Between_ctr : Ctr := ⟨(.pair (.agg (.pair (.int .i64) (.pair (.int .i64) (.int .i64)))) (.pair (.agg (.pair (.int .i64) (.pair (.int .i64) (.int .i64)))) (.pair (.int .i64) (.pair (.int .i64) .unit)))), (.pair (.agg (.pair (.int .i64) (.pair (.int .i64) (.int .i64)))) (.pair (.int .i64) .unit)), refspace_Between_r, 32⟩
theorem refspace_Between_ok : CtrOk Try.prog 32 refspace_Between_ctr := ctr_ok (l := refspace_Between_dc) (f := 12) (an := refspace_Between_an) ⟨refspace_Check_ok, ⟨refspace_Between_1_ok, trivial⟩⟩ fun fu x => by kernel_rfl
def spot_Tint_j1 (fu : Nat) (a : ((List UInt8) × (((Int) × ((Int) × (Int))) × (((Int) × ((Int) × (Int))) × ((List ((Int) × (Int))) × (List (Int)))))) × ((Int) × (Unit))) (v2 : Bool) : Option (((Int) × ((Int) × (Int))) × ((Int) × (Unit))) :=
  bif v2 then
    some ((((0 : Int), ((0 : Int), (0 : Int))), ((3 : Int), ())))
  else
  bindO (curve_Raw_r fu ((a.1.2.2.2.1, ((IntKind.i64.wrap ((256 : Int) * a.2.1)), ())))) fun v3 =>
  bindO (refspace_Between_r fu (((a.1.2.1.1, (a.1.2.1.2.1, a.1.2.1.2.2)), ((a.1.2.2.1.1, (a.1.2.2.1.2.1, a.1.2.2.1.2.2)), (v3.1, ((65280 : Int), ())))))) fun v4 =>
  let v5 : Int := v4.2.1
  some (((v4.1.1, (v4.1.2.1, v4.1.2.2)), (v5, ())))
def spot_Tint_r (fu : Nat) (a : ((List UInt8) × (((Int) × ((Int) × (Int))) × (((Int) × ((Int) × (Int))) × ((List ((Int) × (Int))) × (List (Int)))))) × ((Int) × (Unit))) : Option (((Int) × ((Int) × (Int))) × ((Int) × (Unit))) :=
  bindO (spot_one_r fu (((a.1.1, ((a.1.2.1.1, (a.1.2.1.2.1, a.1.2.1.2.2)), ((a.1.2.2.1.1, (a.1.2.2.1.2.1, a.1.2.2.1.2.2)), (a.1.2.2.2.1, a.1.2.2.2.2)))), ()))) fun v0 =>
  let v1 : Int := v0.1
  bif (decide (v1 ≠ (0 : Int))) then
    some ((((0 : Int), ((0 : Int), (0 : Int))), (v1, ())))
  else
  joinF (spot_Tint_j1 fu a) fun j2 =>
  bif (decide (a.2.1 < (0 : Int))) then
    j2 (true)
  else
  j2 ((decide ((255 : Int) < a.2.1)))
def spot_Tint_an : An := (.n none .z (.n none (.n none .z (.n none .z (.n none (.n none .z .z) .z))) (.n none (.n (some ⟨[2, 1, 4], [0, 1], [], [.reg 17 .bool], 0, []⟩) .z (.n none (.n none .z .z) .z)) (.n none (.dr [] []) .z))))
noncomputable def spot_Tint_dc : List (Nat × Ctr) := [(32, refspace_Between_ctr), (74, spot_one_ctr), (75, curve_Raw_ctr)]
def spot_Tint_ctr : Ctr := ⟨(.pair (.agg (.pair .str (.pair (.pair (.int .i64) (.pair (.int .i64) (.int .i64))) (.pair (.pair (.int .i64) (.pair (.int .i64) (.int .i64))) (.pair (.list (.pair (.int .i64) (.int .i64))) (.list (.int .i64))))))) (.pair (.int .i64) .unit)), (.pair (.agg (.pair (.int .i64) (.pair (.int .i64) (.int .i64)))) (.pair (.int .i64) .unit)), spot_Tint_r, 39⟩
theorem spot_Tint_ok : CtrOk Try.prog 39 spot_Tint_ctr := ctr_ok (l := spot_Tint_dc) (f := 12) (an := spot_Tint_an) ⟨refspace_Between_ok, ⟨spot_one_ok, ⟨curve_Raw_ok, trivial⟩⟩⟩ fun fu x => by kernel_rfl
def spot_Check_l2 (fu : Nat) (a : (List ((List UInt8) × (((Int) × ((Int) × (Int))) × (((Int) × ((Int) × (Int))) × ((List ((Int) × (Int))) × (List (Int))))))) × (Unit)) (v0 : Int) (j0 : (Int) → Option ((Int) × (Unit))) (j4 : (Int) → Option ((Int) × (Unit))) (v4 : Int) : Option ((Int) × (Unit)) :=
  bif (decide (v4 < v0)) then
    bif ((decide ((0 : Int) ≤ v4)) && (decide (v4 < (List.length a.1 : Int)))) then
    let v5 : (List UInt8) × (((Int) × ((Int) × (Int))) × (((Int) × ((Int) × (Int))) × ((List ((Int) × (Int))) × (List (Int))))) := (List.getD a.1 (Int.toNat v4) ([], ((0, (0, 0)), ((0, (0, 0)), ([], [])))))
    bif ((decide ((0 : Int) ≤ v0)) && (decide (v0 < (List.length a.1 : Int)))) then
    let v6 : (List UInt8) × (((Int) × ((Int) × (Int))) × (((Int) × ((Int) × (Int))) × ((List ((Int) × (Int))) × (List (Int))))) := (List.getD a.1 (Int.toNat v0) ([], ((0, (0, 0)), ((0, (0, 0)), ([], [])))))
    bif (decide (v5.1 = v6.1)) then
      some (((7 : Int), ()))
    else
    j4 ((IntKind.i64.wrap (v4 + (1 : Int))))
    else none
    else none
  else
  j0 ((IntKind.i64.wrap (v0 + (1 : Int))))
def spot_Check_l1 (fu : Nat) (a : (List ((List UInt8) × (((Int) × ((Int) × (Int))) × (((Int) × ((Int) × (Int))) × ((List ((Int) × (Int))) × (List (Int))))))) × (Unit)) (j0 : (Int) → Option ((Int) × (Unit))) (v0 : Int) : Option ((Int) × (Unit)) :=
  bif (decide (v0 < (List.length a.1 : Int))) then
    bif ((decide ((0 : Int) ≤ v0)) && (decide (v0 < (List.length a.1 : Int)))) then
    let v1 : (List UInt8) × (((Int) × ((Int) × (Int))) × (((Int) × ((Int) × (Int))) × ((List ((Int) × (Int))) × (List (Int))))) := (List.getD a.1 (Int.toNat v0) ([], ((0, (0, 0)), ((0, (0, 0)), ([], [])))))
    bindO (spot_one_r fu ((v1, ()))) fun v2 =>
    let v3 : Int := v2.1
    bif (decide (v3 ≠ (0 : Int))) then
      some ((v3, ()))
    else
    loopF (spot_Check_l2 fu a v0 j0) fu ((0 : Int))
    else none
  else
  some (((0 : Int), ()))
def spot_Check_r (fu : Nat) (a : (List ((List UInt8) × (((Int) × ((Int) × (Int))) × (((Int) × ((Int) × (Int))) × ((List ((Int) × (Int))) × (List (Int))))))) × (Unit)) : Option ((Int) × (Unit)) :=
  bif (decide ((40 : Int) < (List.length a.1 : Int))) then
    some (((2 : Int), ()))
  else
  loopF (spot_Check_l1 fu a) fu ((0 : Int))
def spot_Check_an : An := (.n none .z (.n none (.n none .z (.n none (.n none .z .z) .z)) (.n none (.n none .z (.n none (.n (some ⟨[0, 10], [], [], [.reg 11 (.int .i64)], 0, []⟩) (.n none .z (.n none .z (.n none (.n none (.n none .z (.n none (.n none .z (.n none .z (.n none (.n none .z .z) .z))) (.n none .z (.n none (.n (some ⟨[11, 3, 21], [], [], [.reg 22 (.int .i64)], 0, []⟩) (.n none .z (.n none .z (.n none (.n none (.n none .z (.n none (.dr [] []) (.n none (.n none .z .z) .z))) .z) .z))) .z) .z)))) .z) .z))) .z) .z)) (.n none .z .z))))
noncomputable def spot_Check_dc : List (Nat × Ctr) := [(74, spot_one_ctr)]
def spot_Check_ctr : Ctr := ⟨(.pair (.list (.pair .str (.pair (.pair (.int .i64) (.pair (.int .i64) (.int .i64))) (.pair (.pair (.int .i64) (.pair (.int .i64) (.int .i64))) (.pair (.list (.pair (.int .i64) (.int .i64))) (.list (.int .i64))))))) .unit), (.pair (.int .i64) .unit), spot_Check_r, 36⟩
theorem spot_Check_ok : CtrOk Try.prog 36 spot_Check_ctr := ctr_ok (l := spot_Check_dc) (f := 12) (an := spot_Check_an) ⟨spot_one_ok, trivial⟩ fun fu x => by kernel_rfl
def R_SpotAt_l1 (fu : Nat) (a : (List ((List UInt8) × (((Int) × ((Int) × (Int))) × (((Int) × ((Int) × (Int))) × ((List ((Int) × (Int))) × (List (Int))))))) × ((List UInt8) × (Unit))) (j1 : (Int) → Option ((Int) × (Unit))) (v1 : Int) : Option ((Int) × (Unit)) :=
  bif (decide ((0 : Int) ≤ v1)) then
    bif ((decide ((0 : Int) ≤ v1)) && (decide (v1 < (List.length a.1 : Int)))) then
    let v2 : (List UInt8) × (((Int) × ((Int) × (Int))) × (((Int) × ((Int) × (Int))) × ((List ((Int) × (Int))) × (List (Int))))) := (List.getD a.1 (Int.toNat v1) ([], ((0, (0, 0)), ((0, (0, 0)), ([], [])))))
    bif (decide (v2.1 = a.2.1)) then
      some ((v1, ()))
    else
    let v3 : Int := (IntKind.i64.wrap (v1 - (1 : Int)))
    j1 (v3)
    else none
  else
  some (((-1 : Int), ()))
def R_SpotAt_r (fu : Nat) (a : (List ((List UInt8) × (((Int) × ((Int) × (Int))) × (((Int) × ((Int) × (Int))) × ((List ((Int) × (Int))) × (List (Int))))))) × ((List UInt8) × (Unit))) : Option ((Int) × (Unit)) :=
  let v0 : Int := (IntKind.i64.wrap ((List.length a.1 : Int) - (1 : Int)))
  loopF (R_SpotAt_l1 fu a) fu (v0)
def R_SpotAt_an : An := (.n none .z (.n none (.n none .z (.n none (.n (some ⟨[0, 1], [], [], [.reg 5 (.int .i64)], 0, []⟩) (.n none (.n none .z .z) (.n none (.n none (.n none .z (.n none (.n none .z .z) .z)) .z) .z)) .z) .z)) (.n none .z .z)))
noncomputable def R_SpotAt_dc : List (Nat × Ctr) := []
def R_SpotAt_ctr : Ctr := ⟨(.pair (.list (.pair .str (.pair (.pair (.int .i64) (.pair (.int .i64) (.int .i64))) (.pair (.pair (.int .i64) (.pair (.int .i64) (.int .i64))) (.pair (.list (.pair (.int .i64) (.int .i64))) (.list (.int .i64))))))) (.pair .str .unit)), (.pair (.int .i64) .unit), R_SpotAt_r, 47⟩
theorem R_SpotAt_ok : CtrOk Try.prog 47 R_SpotAt_ctr := ctr_ok (l := R_SpotAt_dc) (f := 12) (an := R_SpotAt_an) trivial fun fu x => by kernel_rfl
def R_SpotsErr_l1 (fu : Nat) (a : (List ((List UInt8) × (((Int) × ((Int) × (Int))) × (((Int) × ((Int) × (Int))) × ((List ((Int) × (Int))) × (List (Int))))))) × (Unit)) (j0 : (Int) → Option ((Int) × (Unit))) (v0 : Int) : Option ((Int) × (Unit)) :=
  bif (decide (v0 < (List.length a.1 : Int))) then
    bif ((decide ((0 : Int) ≤ v0)) && (decide (v0 < (List.length a.1 : Int)))) then
    let v1 : (List UInt8) × (((Int) × ((Int) × (Int))) × (((Int) × ((Int) × (Int))) × ((List ((Int) × (Int))) × (List (Int))))) := (List.getD a.1 (Int.toNat v0) ([], ((0, (0, 0)), ((0, (0, 0)), ([], [])))))
    bindO (R_SpotErr_r fu (((v1.1, ((v1.2.1.1, (v1.2.1.2.1, v1.2.1.2.2)), ((v1.2.2.1.1, (v1.2.2.1.2.1, v1.2.2.1.2.2)), (v1.2.2.2.1, v1.2.2.2.2)))), ()))) fun v2 =>
    let v3 : Int := v2.1
    bif (decide (v3 ≠ (0 : Int))) then
      some ((v3, ()))
    else
    bif ((decide ((0 : Int) ≤ v0)) && (decide (v0 ≤ (List.length a.1 : Int)))) then
    bindO (R_SpotAt_r fu (((List.drop (Int.toNat (0 : Int)) (List.take (Int.toNat v0) a.1)), (v1.1, ())))) fun v4 =>
    bif (decide ((0 : Int) ≤ v4.1)) then
      some (((7 : Int), ()))
    else
    j0 ((IntKind.i64.wrap (v0 + (1 : Int))))
    else none
    else none
  else
  some (((0 : Int), ()))
def R_SpotsErr_r (fu : Nat) (a : (List ((List UInt8) × (((Int) × ((Int) × (Int))) × (((Int) × ((Int) × (Int))) × ((List ((Int) × (Int))) × (List (Int))))))) × (Unit)) : Option ((Int) × (Unit)) :=
  bif (decide ((40 : Int) < (List.length a.1 : Int))) then
    some (((2 : Int), ()))
  else
  loopF (R_SpotsErr_l1 fu a) fu ((0 : Int))
def R_SpotsErr_an : An := (.n none .z (.n none (.n none .z (.n none (.n none .z .z) .z)) (.n none (.n none .z (.n none (.n (some ⟨[9, 0, 10], [], [], [.reg 11 (.int .i64)], 0, []⟩) (.n none .z (.n none .z (.n none (.n none (.n none .z (.n none (.n none .z (.n none .z (.n none (.n none .z .z) .z))) (.n none (.dr [] []) (.n none (.n none .z .z) .z)))) .z) .z))) .z) .z)) (.n none .z .z))))
noncomputable def R_SpotsErr_dc : List (Nat × Ctr) := [(41, R_SpotErr_ctr), (47, R_SpotAt_ctr)]
def R_SpotsErr_ctr : Ctr := ⟨(.pair (.list (.pair .str (.pair (.pair (.int .i64) (.pair (.int .i64) (.int .i64))) (.pair (.pair (.int .i64) (.pair (.int .i64) (.int .i64))) (.pair (.list (.pair (.int .i64) (.int .i64))) (.list (.int .i64))))))) .unit), (.pair (.int .i64) .unit), R_SpotsErr_r, 37⟩
theorem R_SpotsErr_ok : CtrOk Try.prog 37 R_SpotsErr_ctr := ctr_ok (l := R_SpotsErr_dc) (f := 12) (an := R_SpotsErr_an) ⟨R_SpotErr_ok, ⟨R_SpotAt_ok, trivial⟩⟩ fun fu x => by kernel_rfl
def spot_Expand_l5 (fu : Nat) (v7 : (Int) × (List (Int))) (v15 : (List (Int)) × (Unit)) (j7 : ((Int) × (List (Int))) → Option ((List (Int)) × ((Int) × (Unit)))) (j16 : ((Int) × (List (Int))) → Option ((List (Int)) × ((Int) × (Unit)))) (v16 : (Int) × (List (Int))) : Option ((List (Int)) × ((Int) × (Unit))) :=
  bif (decide (v16.1 < (List.length v15.1 : Int))) then
    bif ((decide ((0 : Int) ≤ v16.1)) && (decide (v16.1 < (List.length v15.1 : Int)))) then
    let v17 : Int := (List.getD v15.1 (Int.toNat v16.1) 0)
    let v18 : Int := v16.1
    bif ((decide ((0 : Int) ≤ v18)) && (decide (v18 < (List.length v16.2 : Int)))) then
    bif ((decide ((0 : Int) ≤ v18)) && (decide (v18 < (List.length v16.2 : Int)))) then
    j16 (((IntKind.i64.wrap (v16.1 + (1 : Int))), (List.set v16.2 (Int.toNat v18) (IntKind.i64.wrap ((List.getD v16.2 (Int.toNat v18) 0) + v17)))))
    else none
    else none
    else none
  else
  j7 (((IntKind.i64.wrap (v7.1 + (1 : Int))), v16.2))
def spot_Expand_j4 (fu : Nat) (a : (List ((List UInt8) × (((Int) × ((Int) × (Int))) × (((Int) × ((Int) × (Int))) × ((List ((Int) × (Int))) × (List (Int))))))) × ((List (Int)) × ((List (List UInt8)) × ((List (Int)) × (Unit))))) (v7 : (Int) × (List (Int))) (v9 : Int) (v10 : Int) (j7 : ((Int) × (List (Int))) → Option ((List (Int)) × ((Int) × (Unit)))) (j10 : (Int) → Option ((List (Int)) × ((Int) × (Unit)))) (v11 : Bool) : Option ((List (Int)) × ((Int) × (Unit))) :=
  bif v11 then
    let v12 : Int := (IntKind.i64.wrap (v10 + (1 : Int)))
    j10 (v12)
  else
  bif (decide (v10 = (List.length a.1 : Int))) then
    some ((([] : List (Int)), ((6 : Int), ())))
  else
  bif ((decide ((0 : Int) ≤ v10)) && (decide (v10 < (List.length a.1 : Int)))) then
  let v12 : (List UInt8) × (((Int) × ((Int) × (Int))) × (((Int) × ((Int) × (Int))) × ((List ((Int) × (Int))) × (List (Int))))) := (List.getD a.1 (Int.toNat v10) ([], ((0, (0, 0)), ((0, (0, 0)), ([], [])))))
  bif (decide ((List.length v12.2.2.2.2 : Int) ≠ (List.length v7.2 : Int))) then
    some ((([] : List (Int)), ((4 : Int), ())))
  else
  bif ((decide ((0 : Int) ≤ v10)) && (decide (v10 < (List.length a.1 : Int)))) then
  let v13 : (List UInt8) × (((Int) × ((Int) × (Int))) × (((Int) × ((Int) × (Int))) × ((List ((Int) × (Int))) × (List (Int))))) := (List.getD a.1 (Int.toNat v10) ([], ((0, (0, 0)), ((0, (0, 0)), ([], [])))))
  bif ((decide ((0 : Int) ≤ v9)) && (decide (v9 < (List.length a.2.2.2.1 : Int)))) then
  let v14 : Int := (List.getD a.2.2.2.1 (Int.toNat v9) 0)
  bindO (spot_Quick_r fu ((v13, (v14, ())))) fun v15 =>
  loopF (spot_Expand_l5 fu v7 v15 j7) fu (((0 : Int), v7.2))
  else none
  else none
  else none
def spot_Expand_l3 (fu : Nat) (a : (List ((List UInt8) × (((Int) × ((Int) × (Int))) × (((Int) × ((Int) × (Int))) × ((List ((Int) × (Int))) × (List (Int))))))) × ((List (Int)) × ((List (List UInt8)) × ((List (Int)) × (Unit))))) (v7 : (Int) × (List (Int))) (v8 : List UInt8) (v9 : Int) (j7 : ((Int) × (List (Int))) → Option ((List (Int)) × ((Int) × (Unit)))) (j10 : (Int) → Option ((List (Int)) × ((Int) × (Unit)))) (v10 : Int) : Option ((List (Int)) × ((Int) × (Unit))) :=
  joinF (spot_Expand_j4 fu a v7 v9 v10 j7 j10) fun j11 =>
  bif (decide (v10 < (List.length a.1 : Int))) then
    bif ((decide ((0 : Int) ≤ v10)) && (decide (v10 < (List.length a.1 : Int)))) then
    let v12 : (List UInt8) × (((Int) × ((Int) × (Int))) × (((Int) × ((Int) × (Int))) × ((List ((Int) × (Int))) × (List (Int))))) := (List.getD a.1 (Int.toNat v10) ([], ((0, (0, 0)), ((0, (0, 0)), ([], [])))))
    j11 ((!(decide (v12.1 = v8))))
    else none
  else
  j11 (false)
def spot_Expand_l6 (fu : Nat) (v7 : (Int) × (List (Int))) (j8 : ((Int) × (List (Int))) → Option ((List (Int)) × ((Int) × (Unit)))) (v8 : (Int) × (List (Int))) : Option ((List (Int)) × ((Int) × (Unit))) :=
  bif (decide (v8.1 < (List.length v7.2 : Int))) then
    let v9 : Int := v8.1
    bif ((decide ((0 : Int) ≤ v9)) && (decide (v9 < (List.length v8.2 : Int)))) then
    bif ((decide ((0 : Int) ≤ v9)) && (decide (v9 < (List.length v8.2 : Int)))) then
    j8 (((IntKind.i64.wrap (v8.1 + (1 : Int))), (List.set v8.2 (Int.toNat v9) (min (List.getD v8.2 (Int.toNat v9) 0) (255 : Int)))))
    else none
    else none
  else
  some ((v8.2, ((0 : Int), ())))
def spot_Expand_l2 (fu : Nat) (a : (List ((List UInt8) × (((Int) × ((Int) × (Int))) × (((Int) × ((Int) × (Int))) × ((List ((Int) × (Int))) × (List (Int))))))) × ((List (Int)) × ((List (List UInt8)) × ((List (Int)) × (Unit))))) (j7 : ((Int) × (List (Int))) → Option ((List (Int)) × ((Int) × (Unit)))) (v7 : (Int) × (List (Int))) : Option ((List (Int)) × ((Int) × (Unit))) :=
  bif (decide (v7.1 < (List.length a.2.2.1 : Int))) then
    bif ((decide ((0 : Int) ≤ v7.1)) && (decide (v7.1 < (List.length a.2.2.1 : Int)))) then
    let v8 : List UInt8 := (List.getD a.2.2.1 (Int.toNat v7.1) [])
    let v9 : Int := v7.1
    loopF (spot_Expand_l3 fu a v7 v8 v9 j7) fu ((0 : Int))
    else none
  else
  loopF (spot_Expand_l6 fu v7) fu (((0 : Int), v7.2))
def spot_Expand_j1 (fu : Nat) (a : (List ((List UInt8) × (((Int) × ((Int) × (Int))) × (((Int) × ((Int) × (Int))) × ((List ((Int) × (Int))) × (List (Int))))))) × ((List (Int)) × ((List (List UInt8)) × ((List (Int)) × (Unit))))) (v2 : Bool) : Option ((List (Int)) × ((Int) × (Unit))) :=
  bif v2 then
    some ((([] : List (Int)), ((2 : Int), ())))
  else
  bindO (profile_Tones_r fu ((a.2.1, ((List.length a.2.1 : Int), ())))) fun v3 =>
  let v4 : Int := v3.1
  bif (decide (v4 ≠ (0 : Int))) then
    some ((([] : List (Int)), (v4, ())))
  else
  bindO (profile_Tones_r fu ((a.2.2.2.1, ((List.length a.2.2.1 : Int), ())))) fun v5 =>
  let v6 : Int := v5.1
  bif (decide (v6 ≠ (0 : Int))) then
    some ((([] : List (Int)), (v6, ())))
  else
  bif (decide (((List.length a.2.1 : Int) * (8 : Int)) ≤ (140737488355328 : Int))) then
  loopF (spot_Expand_l2 fu a) fu (((0 : Int), a.2.1))
  else none
def spot_Expand_r (fu : Nat) (a : (List ((List UInt8) × (((Int) × ((Int) × (Int))) × (((Int) × ((Int) × (Int))) × ((List ((Int) × (Int))) × (List (Int))))))) × ((List (Int)) × ((List (List UInt8)) × ((List (Int)) × (Unit))))) : Option ((List (Int)) × ((Int) × (Unit))) :=
  bindO (spot_Check_r fu ((a.1, ()))) fun v0 =>
  let v1 : Int := v0.1
  bif (decide (v1 ≠ (0 : Int))) then
    some ((([] : List (Int)), (v1, ())))
  else
  joinF (spot_Expand_j1 fu a) fun j2 =>
  bif (decide ((8 : Int) < (List.length a.2.1 : Int))) then
    j2 (true)
  else
  j2 ((decide ((8 : Int) < (List.length a.2.2.1 : Int))))
def spot_Expand_an : An := (.n none .z (.n none (.n none .z (.n none .z (.n none (.n none .z .z) .z))) (.n none (.n (some ⟨[1, 2, 3, 0], [], [], [.reg 32 .bool], 0, []⟩) .z (.n none (.n none .z .z) .z)) (.n none (.n none .z (.n none .z (.n none (.n none .z .z) .z))) (.n none (.n none .z (.n none .z (.n none (.n none .z .z) .z))) (.n none .z (.n none (.n none .z (.n none (.n (some ⟨[13, 49, 3, 0, 50], [], [], [.reg 51 (.int .i64), .row 0 false (.int .i64) 3 0], 0, []⟩) (.n none .z (.n none .z (.n none (.n none (.n none .z (.n none .z (.n none (.n none (.n (some ⟨[51, 14, 15], [0], [], [.reg 16 (.int .i64)], 0, []⟩) (.n none (.n (some ⟨[16], [], [], [.reg 68 .bool], 0, []⟩) .z .z) (.n none .z .z)) .z) .z) (.n none (.n none .z (.n none (.n none .z .z) .z)) (.n none (.n none .z (.n none (.n none .z .z) .z)) (.n none (.dr [] []) (.n none (.n (some ⟨[51, 91, 92], [], [], [.reg 93 (.int .i64), .row 0 false (.int .i64) 3 0], 0, []⟩) (.n none .z (.n none .z (.n none (.n none (.n none .z .z) .z) .z))) .z) .z))))))) .z) .z))) .z) .z)) (.n none (.n none .z (.n none (.n (some ⟨[13, 108], [], [], [.reg 109 (.int .i64), .row 0 false (.int .i64) 3 0], 0, []⟩) (.n none .z (.n none .z (.n none (.n none (.n none .z .z) .z) .z))) .z) .z)) (.n none .z .z)))))))))
noncomputable def spot_Expand_dc : List (Nat × Ctr) := [(36, spot_Check_ctr), (76, spot_Quick_ctr), (79, profile_Tones_ctr)]
def spot_Expand_ctr : Ctr := ⟨(.pair (.list (.pair .str (.pair (.pair (.int .i64) (.pair (.int .i64) (.int .i64))) (.pair (.pair (.int .i64) (.pair (.int .i64) (.int .i64))) (.pair (.list (.pair (.int .i64) (.int .i64))) (.list (.int .i64))))))) (.pair (.list (.int .i64)) (.pair (.list .str) (.pair (.list (.int .i64)) .unit)))), (.pair (.list (.int .i64)) (.pair (.int .i64) .unit)), spot_Expand_r, 45⟩
theorem spot_Expand_ok : CtrOk Try.prog 45 spot_Expand_ctr := ctr_ok (l := spot_Expand_dc) (f := 12) (an := spot_Expand_an) ⟨spot_Check_ok, ⟨spot_Quick_ok, ⟨profile_Tones_ok, trivial⟩⟩⟩ fun fu x => by kernel_rfl
def law_line_r (fu : Nat) (a : Unit) : Option ((List ((Int) × (Int))) × (Unit)) :=
  some (((((0 : Int), (0 : Int)) :: (((65280 : Int), (65280 : Int)) :: ([] : List ((Int) × (Int))))), ()))
def law_line_an : An := (.n none .z (.n none .z .z))
noncomputable def law_line_dc : List (Nat × Ctr) := []
def law_line_ctr : Ctr := ⟨.unit, (.pair (.agg (.list (.pair (.int .i64) (.int .i64)))) .unit), law_line_r, 91⟩
theorem law_line_ok : CtrOk Try.prog 91 law_line_ctr := ctr_ok (l := law_line_dc) (f := 12) (an := law_line_an) trivial fun fu x => by kernel_rfl
def law_leaf_r (fu : Nat) (a : Unit) : Option (((List UInt8) × (((Int) × ((Int) × (Int))) × (((Int) × ((Int) × (Int))) × ((List ((Int) × (Int))) × (List (Int)))))) × (Unit)) :=
  bindO (law_line_r fu (())) fun v0 =>
  some (((([108, 101, 97, 102] : List UInt8), (((9000 : Int), ((0 : Int), (0 : Int))), (((5000 : Int), ((2000 : Int), (-1000 : Int))), (v0.1, ((0 : Int) :: ((255 : Int) :: ((100 : Int) :: ((10 : Int) :: ([] : List (Int)))))))))), ()))
def law_leaf_an : An := (.n none .z (.n none .z .z))
noncomputable def law_leaf_dc : List (Nat × Ctr) := [(91, law_line_ctr)]
def law_leaf_ctr : Ctr := ⟨.unit, (.pair (.agg (.pair .str (.pair (.pair (.int .i64) (.pair (.int .i64) (.int .i64))) (.pair (.pair (.int .i64) (.pair (.int .i64) (.int .i64))) (.pair (.list (.pair (.int .i64) (.int .i64))) (.list (.int .i64))))))) .unit), law_leaf_r, 73⟩
theorem law_leaf_ok : CtrOk Try.prog 73 law_leaf_ctr := ctr_ok (l := law_leaf_dc) (f := 12) (an := law_leaf_an) ⟨law_line_ok, trivial⟩ fun fu x => by kernel_rfl
def law_spotWorks_r (fu : Nat) (a : Unit) : Option ((Bool) × (Unit)) :=
  bindO (law_leaf_r fu (())) fun v0 =>
  bindO (spot_Tint_r fu (((v0.1.1, ((v0.1.2.1.1, (v0.1.2.1.2.1, v0.1.2.1.2.2)), ((v0.1.2.2.1.1, (v0.1.2.2.1.2.1, v0.1.2.2.1.2.2)), (v0.1.2.2.2.1, v0.1.2.2.2.2)))), ((51 : Int), ())))) fun v1 =>
  let v2 : Int := v1.2.1
  bindO (law_leaf_r fu (())) fun v3 =>
  bindO (spot_Process_r fu (((v3.1.1, ((v3.1.2.1.1, (v3.1.2.1.2.1, v3.1.2.1.2.2)), ((v3.1.2.2.1.1, (v3.1.2.2.1.2.1, v3.1.2.2.1.2.2)), (v3.1.2.2.2.1, v3.1.2.2.2.2)))), ((51 : Int), ())))) fun v4 =>
  let v5 : List (Int) := v4.1
  let v6 : Int := v4.2.1
  bindO (law_leaf_r fu (())) fun v7 =>
  bindO (spot_Expand_r fu ((((v7.1.1, ((v7.1.2.1.1, (v7.1.2.1.2.1, v7.1.2.1.2.2)), ((v7.1.2.2.1.1, (v7.1.2.2.1.2.1, v7.1.2.2.1.2.2)), (v7.1.2.2.2.1, v7.1.2.2.2.2)))) :: ([] : List ((List UInt8) × (((Int) × ((Int) × (Int))) × (((Int) × ((Int) × (Int))) × ((List ((Int) × (Int))) × (List (Int)))))))), (((10 : Int) :: ((220 : Int) :: ((0 : Int) :: ((0 : Int) :: ([] : List (Int)))))), ((([108, 101, 97, 102] : List UInt8) :: ([] : List (List UInt8))), (((51 : Int) :: ([] : List (Int))), ())))))) fun v8 =>
  let v9 : List (Int) := v8.1
  let v10 : Int := v8.2.1
  bif (decide (v2 = (0 : Int))) then
    bif ((decide (v1.1.1 = (8200 : Int))) && ((decide (v1.1.2.1 = (400 : Int))) && (decide (v1.1.2.2 = (-200 : Int))))) then
      bif (decide (v6 = (0 : Int))) then
        bindO (R_SameInts_r fu ((v5, (((0 : Int) :: ((51 : Int) :: ((20 : Int) :: ((2 : Int) :: ([] : List (Int)))))), ())))) fun v11 =>
        bif v11.1 then
          bif (decide (v10 = (0 : Int))) then
            bindO (R_SameInts_r fu ((v9, (((10 : Int) :: ((255 : Int) :: ((20 : Int) :: ((2 : Int) :: ([] : List (Int)))))), ())))) fun v12 =>
            let v13 : Bool := v12.1
            some ((v13, ()))
          else
          some ((false, ()))
        else
        some ((false, ()))
      else
      some ((false, ()))
    else
    some ((false, ()))
  else
  some ((false, ()))
def law_spotWorks_an : An := (.n none .z (.n none .z (.n none .z (.n none .z (.n none .z .z)))))
noncomputable def law_spotWorks_dc : List (Nat × Ctr) := [(39, spot_Tint_ctr), (40, spot_Process_ctr), (43, R_SameInts_ctr), (45, spot_Expand_ctr), (73, law_leaf_ctr)]
def law_spotWorks_ctr : Ctr := ⟨.unit, (.pair .bool .unit), law_spotWorks_r, 35⟩
theorem law_spotWorks_ok : CtrOk Try.prog 35 law_spotWorks_ctr := ctr_ok (l := law_spotWorks_dc) (f := 12) (an := law_spotWorks_an) ⟨spot_Tint_ok, ⟨spot_Process_ok, ⟨R_SameInts_ok, ⟨spot_Expand_ok, ⟨law_leaf_ok, trivial⟩⟩⟩⟩⟩ fun fu x => by kernel_rfl
def law_SpotExpansions_j6 (fu : Nat) (j9 : ((Int) × ((Int) × (List (Int)))) → Option ((Bool) × (Unit))) (v11 : (Int) × ((Int) × (List (Int)))) : Option ((Bool) × (Unit)) :=
  let v12 : Int := (IntKind.i64.wrap (v11.1 + (1 : Int)))
  j9 ((v11.2.1, (v12, v11.2.2)))
def law_SpotExpansions_l7 (fu : Nat) (v9 : (Int) × ((Int) × (List (Int)))) (v20 : (List (Int)) × (Unit)) (j11 : ((Int) × ((Int) × (List (Int)))) → Option ((Bool) × (Unit))) (j21 : ((Int) × (List (Int))) → Option ((Bool) × (Unit))) (v21 : (Int) × (List (Int))) : Option ((Bool) × (Unit)) :=
  bif (decide (v21.1 < (List.length v20.1 : Int))) then
    bif ((decide ((0 : Int) ≤ v21.1)) && (decide (v21.1 < (List.length v20.1 : Int)))) then
    let v22 : Int := (List.getD v20.1 (Int.toNat v21.1) 0)
    let v23 : Int := v21.1
    bif ((decide ((0 : Int) ≤ v23)) && (decide (v23 < (List.length v21.2 : Int)))) then
    bif ((decide ((0 : Int) ≤ v23)) && (decide (v23 < (List.length v21.2 : Int)))) then
    j21 (((IntKind.i64.wrap (v21.1 + (1 : Int))), (List.set v21.2 (Int.toNat v23) (min (255 : Int) (IntKind.i64.wrap ((List.getD v21.2 (Int.toNat v23) 0) + v22))))))
    else none
    else none
    else none
  else
  j11 ((v9.2.1, (v9.1, v21.2)))
def law_SpotExpansions_j5 (fu : Nat) (a : (List ((List UInt8) × (((Int) × ((Int) × (Int))) × (((Int) × ((Int) × (Int))) × ((List ((Int) × (Int))) × (List (Int))))))) × ((List (Int)) × ((List (List UInt8)) × ((List (Int)) × (Unit))))) (v2 : List (Int)) (v3 : Int) (v9 : (Int) × ((Int) × (List (Int)))) (j9 : ((Int) × ((Int) × (List (Int)))) → Option ((Bool) × (Unit))) (v10 : Bool) : Option ((Bool) × (Unit)) :=
  bif v10 then
    joinF (law_SpotExpansions_j6 fu j9) fun j11 =>
    bif ((decide ((0 : Int) ≤ v9.2.1)) && (decide (v9.2.1 < (List.length a.2.2.1 : Int)))) then
    let v12 : List UInt8 := (List.getD a.2.2.1 (Int.toNat v9.2.1) [])
    bindO (R_SpotAt_r fu ((a.1, (v12, ())))) fun v13 =>
    let v14 : Int := v13.1
    let v15 : Bool := (decide (v14 < (0 : Int)))
    bif v15 then
      j11 ((v9.2.1, ((6 : Int), v9.2.2)))
    else
    bif ((decide ((0 : Int) ≤ v14)) && (decide (v14 < (List.length a.1 : Int)))) then
    let v16 : (List UInt8) × (((Int) × ((Int) × (Int))) × (((Int) × ((Int) × (Int))) × ((List ((Int) × (Int))) × (List (Int))))) := (List.getD a.1 (Int.toNat v14) ([], ((0, (0, 0)), ((0, (0, 0)), ([], [])))))
    let v17 : Bool := (decide ((List.length v16.2.2.2.2 : Int) ≠ (List.length a.2.1 : Int)))
    bif v17 then
      j11 ((v9.2.1, ((4 : Int), v9.2.2)))
    else
    bif ((decide ((0 : Int) ≤ v14)) && (decide (v14 < (List.length a.1 : Int)))) then
    let v18 : (List UInt8) × (((Int) × ((Int) × (Int))) × (((Int) × ((Int) × (Int))) × ((List ((Int) × (Int))) × (List (Int))))) := (List.getD a.1 (Int.toNat v14) ([], ((0, (0, 0)), ((0, (0, 0)), ([], [])))))
    bif ((decide ((0 : Int) ≤ v9.2.1)) && (decide (v9.2.1 < (List.length a.2.2.2.1 : Int)))) then
    let v19 : Int := (List.getD a.2.2.2.1 (Int.toNat v9.2.1) 0)
    bindO (R_SpotProcess_r fu (((v18.1, ((v18.2.1.1, (v18.2.1.2.1, v18.2.1.2.2)), ((v18.2.2.1.1, (v18.2.2.1.2.1, v18.2.2.1.2.2)), (v18.2.2.2.1, v18.2.2.2.2)))), (v19, ())))) fun v20 =>
    loopF (law_SpotExpansions_l7 fu v9 v20 j11) fu (((0 : Int), v9.2.2))
    else none
    else none
    else none
    else none
  else
  bif (decide (v9.1 ≠ (0 : Int))) then
    bindO (law_none_r fu (((decide ((List.length v2 : Int) = (0 : Int))), (v3, (v9.1, ()))))) fun v11 =>
    let v12 : Bool := v11.1
    some ((v12, ()))
  else
  bif (decide (v3 = (0 : Int))) then
    bindO (R_SameInts_r fu ((v2, (v9.2.2, ())))) fun v11 =>
    let v12 : Bool := v11.1
    some ((v12, ()))
  else
  some ((false, ()))
def law_SpotExpansions_l4 (fu : Nat) (a : (List ((List UInt8) × (((Int) × ((Int) × (Int))) × (((Int) × ((Int) × (Int))) × ((List ((Int) × (Int))) × (List (Int))))))) × ((List (Int)) × ((List (List UInt8)) × ((List (Int)) × (Unit))))) (v2 : List (Int)) (v3 : Int) (j9 : ((Int) × ((Int) × (List (Int)))) → Option ((Bool) × (Unit))) (v9 : (Int) × ((Int) × (List (Int)))) : Option ((Bool) × (Unit)) :=
  joinF (law_SpotExpansions_j5 fu a v2 v3 v9 j9) fun j10 =>
  bif (decide (v9.2.1 < (List.length a.2.2.1 : Int))) then
    j10 ((decide (v9.1 = (0 : Int))))
  else
  j10 (false)
def law_SpotExpansions_j3 (fu : Nat) (a : (List ((List UInt8) × (((Int) × ((Int) × (Int))) × (((Int) × ((Int) × (Int))) × ((List ((Int) × (Int))) × (List (Int))))))) × ((List (Int)) × ((List (List UInt8)) × ((List (Int)) × (Unit))))) (v2 : List (Int)) (v3 : Int) (v8 : Int) : Option ((Bool) × (Unit)) :=
  bif (decide ((((List.length ([] : List (Int)) : Int) + (List.length a.2.1 : Int)) * (8 : Int)) ≤ (140737488355328 : Int))) then
  loopF (law_SpotExpansions_l4 fu a v2 v3) fu ((v8, ((0 : Int), (([] : List (Int)) ++ a.2.1))))
  else none
def law_SpotExpansions_j2 (fu : Nat) (a : (List ((List UInt8) × (((Int) × ((Int) × (Int))) × (((Int) × ((Int) × (Int))) × ((List ((Int) × (Int))) × (List (Int))))))) × ((List (Int)) × ((List (List UInt8)) × ((List (Int)) × (Unit))))) (v2 : List (Int)) (v3 : Int) (v7 : Int) : Option ((Bool) × (Unit)) :=
  joinF (law_SpotExpansions_j3 fu a v2 v3) fun j8 =>
  bif (decide (v7 = (0 : Int))) then
    bindO (R_TonesErr_r fu ((a.2.2.2.1, ((List.length a.2.2.1 : Int), ((255 : Int), ()))))) fun v9 =>
    let v10 : Int := v9.1
    j8 (v10)
  else
  j8 (v7)
def law_SpotExpansions_j1 (fu : Nat) (a : (List ((List UInt8) × (((Int) × ((Int) × (Int))) × (((Int) × ((Int) × (Int))) × ((List ((Int) × (Int))) × (List (Int))))))) × ((List (Int)) × ((List (List UInt8)) × ((List (Int)) × (Unit))))) (v2 : List (Int)) (v3 : Int) (v6 : Int) : Option ((Bool) × (Unit)) :=
  joinF (law_SpotExpansions_j2 fu a v2 v3) fun j7 =>
  bif (decide (v6 = (0 : Int))) then
    bindO (R_TonesErr_r fu ((a.2.1, ((List.length a.2.1 : Int), ((255 : Int), ()))))) fun v8 =>
    let v9 : Int := v8.1
    j7 (v9)
  else
  j7 (v6)
def law_SpotExpansions_j8 (fu : Nat) (j6 : (Int) → Option ((Bool) × (Unit))) (v7 : (Bool) × (Int)) : Option ((Bool) × (Unit)) :=
  bif v7.1 then
    j6 ((2 : Int))
  else
  j6 (v7.2)
def law_SpotExpansions_r (fu : Nat) (a : (List ((List UInt8) × (((Int) × ((Int) × (Int))) × (((Int) × ((Int) × (Int))) × ((List ((Int) × (Int))) × (List (Int))))))) × ((List (Int)) × ((List (List UInt8)) × ((List (Int)) × (Unit))))) : Option ((Bool) × (Unit)) :=
  bindO (law_spotWorks_r fu (())) fun v0 =>
  bif (!v0.1) then
    some ((false, ()))
  else
  bindO (spot_Expand_r fu ((a.1, (a.2.1, (a.2.2.1, (a.2.2.2.1, ())))))) fun v1 =>
  let v2 : List (Int) := v1.1
  let v3 : Int := v1.2.1
  bindO (R_SpotsErr_r fu ((a.1, ()))) fun v4 =>
  let v5 : Int := v4.1
  joinF (law_SpotExpansions_j1 fu a v2 v3) fun j6 =>
  joinF (law_SpotExpansions_j8 fu j6) fun j7 =>
  bif (decide (v5 = (0 : Int))) then
    bif (decide ((8 : Int) < (List.length a.2.1 : Int))) then
      j7 ((true, v5))
    else
    j7 (((decide ((8 : Int) < (List.length a.2.2.1 : Int))), v5))
  else
  j7 ((false, v5))
def law_SpotExpansions_an : An := (.n none .z (.n none (.n none .z (.n none (.n none .z .z) .z)) (.n none .z (.n none .z (.n (some ⟨[9, 10, 2, 1, 0, 3], [], [], [.reg 11 (.int .i64)], 0, []⟩) (.n (some ⟨[8], [], [], [.reg 40 .bool, .reg 11 (.int .i64)], 0, []⟩) .z (.n none .z .z)) (.n (some ⟨[], [], [], [.reg 11 (.int .i64)], 0, []⟩) (.n none .z (.n none .z .z)) (.n (some ⟨[], [], [], [.reg 11 (.int .i64)], 0, []⟩) (.n none .z (.n none .z .z)) (.n none .z (.n none (.n none .z (.n none (.n (some ⟨[12], [], [], [.reg 11 (.int .i64), .reg 13 (.int .i64), .row 0 false (.int .i64) 3 1], 0, []⟩) (.n none (.n (some ⟨[13, 11], [0], [], [.reg 63 .bool], 0, []⟩) .z .z) (.n (some ⟨[], [], [], [.reg 13 (.int .i64), .reg 11 (.int .i64), .row 0 false (.int .i64) 3 1], 0, []⟩) (.n none (.n none .z (.n none (.n none .z (.n none .z (.n none .z (.n none .z (.n none (.dr [] []) (.n none (.n (some ⟨[11, 13, 80, 81], [], [], [.reg 82 (.int .i64), .row 0 false (.int .i64) 3 1], 0, []⟩) (.n none .z (.n none .z (.n none (.n none (.n none .z .z) .z) .z))) .z) .z)))))) .z)) .z) .z)) .z) .z)) (.n none (.n none .z (.n none (.n none .z .z) .z)) (.n none .z .z)))))))))))
noncomputable def law_SpotExpansions_dc : List (Nat × Ctr) := [(21, law_none_ctr), (35, law_spotWorks_ctr), (37, R_SpotsErr_ctr), (43, R_SameInts_ctr), (44, R_SpotProcess_ctr), (45, spot_Expand_ctr), (46, R_TonesErr_ctr), (47, R_SpotAt_ctr)]
def law_SpotExpansions_ctr : Ctr := ⟨(.pair (.list (.pair .str (.pair (.pair (.int .i64) (.pair (.int .i64) (.int .i64))) (.pair (.pair (.int .i64) (.pair (.int .i64) (.int .i64))) (.pair (.list (.pair (.int .i64) (.int .i64))) (.list (.int .i64))))))) (.pair (.list (.int .i64)) (.pair (.list .str) (.pair (.list (.int .i64)) .unit)))), (.pair .bool .unit), law_SpotExpansions_r, 7⟩
theorem law_SpotExpansions_ok : CtrOk Try.prog 7 law_SpotExpansions_ctr := ctr_ok (l := law_SpotExpansions_dc) (f := 12) (an := law_SpotExpansions_an) ⟨law_none_ok, ⟨law_spotWorks_ok, ⟨R_SpotsErr_ok, ⟨R_SameInts_ok, ⟨R_SpotProcess_ok, ⟨spot_Expand_ok, ⟨R_TonesErr_ok, ⟨R_SpotAt_ok, trivial⟩⟩⟩⟩⟩⟩⟩⟩ fun fu x => by kernel_rfl
end Go.Proofs.Ytdfocbeejgcglaa
/- Plain facts for residual programs. No program in sight. -/
namespace Go.Proofs.Ytdfocbeejgcglaa
open Go Go.RowKit
theorem loopF_spec {α β : Type} {f : (α → Option β) → α → Option β} (μ : α → Nat) (I : α → Prop) (S : α → Option β) (h : ∀ j x, I x → (∀ x', I x' → μ x' < μ x → j x' = S x') → f j x = S x) : ∀ (fu : Nat) (x : α), I x → μ x < fu → loopF f fu x = S x
  | 0, _, _, h0 => absurd h0 (Nat.not_lt_zero _)
  | fu + 1, x, hI, hm => by
    rw [loopF]
    exact h _ x hI fun x' h1 h2 => loopF_spec μ I S h fu x' h1 (by omega)
theorem bif_pos {α : Type} {p : Prop} [Decidable p] {a b : α} (h : p) : (bif decide p then a else b) = a := by rw [decide_eq_true h]; rfl
theorem bif_neg {α : Type} {p : Prop} [Decidable p] {a b : α} (h : ¬ p) : (bif decide p then a else b) = b := by rw [decide_eq_false h]; rfl
theorem joinF_eq {α β : Type} (J : α → Option β) (b : (α → Option β) → Option β) : joinF J b = b J := rfl
theorem bindO_some {α β : Type} (x : α) (k : α → Option β) : bindO (some x) k = k x := rfl
/-- the fuel -/
def FU : Nat := 18446744073709551616
/-! ### What is left of a loop -/
end Go.Proofs.Ytdfocbeejgcglaa
/- Plain facts on whole numbers: rounding, floor division. No program in sight. -/
namespace Go.Proofs.Ytdfocbeejgcglaa

/-- n/d rounded half up -/
def rnd (n d : Int) : Int := (2 * n + d) / (2 * d)

theorem div_uniq {a b q r : Int} (hb : 0 < b) (h : r + b * q = a) (h0 : 0 ≤ r) (h1 : r < b) : a / b = q :=
  ((Int.ediv_emod_unique hb).2 ⟨h, h0, h1⟩).1

theorem tdiv_neg {a b : Int} (hb : 0 < b) (h : a.tmod b < 0) : a.tdiv b - 1 = a / b := by
  have h1 := Int.tmod_add_mul_tdiv a b
  have h2 : -b < a.tmod b := by
    have := Int.lt_tmod_of_pos a hb
    omega
  refine (div_uniq (r := a.tmod b + b) hb ?_ (by omega) (by omega)).symm
  rw [Int.mul_sub]; omega

theorem tdiv_pos {a b : Int} (hb : 0 < b) (h : 0 ≤ a.tmod b) : a.tdiv b = a / b := by
  have h1 := Int.tmod_add_mul_tdiv a b
  have h2 : a.tmod b < b := Int.tmod_lt_of_pos a hb
  exact (div_uniq (r := a.tmod b) hb (by omega) (by omega) (by omega)).symm

theorem tdiv_over {a b : Int} (hb : 0 < b) (h : a < a.tdiv b * b) : a.tdiv b - 1 = a / b := by
  have h1 := Int.tmod_add_mul_tdiv a b
  refine tdiv_neg hb ?_
  rw [Int.mul_comm] at h1; omega

theorem tdiv_under {a b : Int} (hb : 0 < b) (h : a.tdiv b * b ≤ a) : a.tdiv b = a / b := by
  have h1 := Int.tmod_add_mul_tdiv a b
  refine tdiv_pos hb ?_
  rw [Int.mul_comm] at h1; omega

/-- the reference's way of rounding -/
theorem rnd_up {n d : Int} (hd : 0 < d) (h : d ≤ 2 * (n - n / d * d)) : n / d + 1 = rnd n d := by
  have h1 := Int.emod_add_mul_ediv n d
  have h2 := Int.emod_lt_of_pos n hd
  have h3 := Int.emod_nonneg n (by omega : d ≠ 0)
  rw [Int.mul_comm] at h1
  refine (div_uniq (r := 2 * (n % d) - d) (by omega) ?_ (by omega) (by omega)).symm
  have e : 2 * d * (n / d + 1) = 2 * (n / d * d) + 2 * d := by rw [Int.mul_add, Int.mul_assoc, Int.mul_comm d]; omega
  omega

theorem rnd_down {n d : Int} (hd : 0 < d) (h : 2 * (n - n / d * d) < d) : n / d = rnd n d := by
  have h1 := Int.emod_add_mul_ediv n d
  have h2 := Int.emod_lt_of_pos n hd
  have h3 := Int.emod_nonneg n (by omega : d ≠ 0)
  rw [Int.mul_comm] at h1
  refine (div_uniq (r := 2 * (n % d) + d) (by omega) ?_ (by omega) (by omega)).symm
  have e : 2 * d * (n / d) = 2 * (n / d * d) := by rw [Int.mul_assoc, Int.mul_comm d]
  omega

theorem tdiv_abs {n m : Int} (d : Int) (h1 : -m ≤ n) (h2 : n ≤ m) : -m ≤ n.tdiv d ∧ n.tdiv d ≤ m := by
  have := Int.natAbs_tdiv_le_natAbs n d
  omega

end Go.Proofs.Ytdfocbeejgcglaa
/- Rewriting of residual programs by facts of arithmetic. No program in sight. -/
namespace Go.Proofs.Ytdfocbeejgcglaa
open Go Go.RowKit
theorem s_pos {p : Prop} [Decidable p] (h : p) : decide p = true := decide_eq_true h
theorem s_neg {p : Prop} [Decidable p] (h : ¬ p) : decide p = false := decide_eq_false h
theorem s_wr {x : Int} (h0 : -9223372036854775808 ≤ x) (h1 : x ≤ 9223372036854775807) : IntKind.i64.wrap x = x := wr64 h0 h1
theorem s_td {a b : Int} (h : 0 ≤ a) : Int.tdiv a b = a / b := Int.tdiv_eq_ediv_of_nonneg h
theorem s_tm {a b : Int} (h : 0 ≤ a) : Int.tmod a b = a % b := Int.tmod_eq_emod_of_nonneg h
/-- the first error of n steps from step i on -/
def firstE (E : Nat → Int) : Nat → Nat → Int
  | 0, _ => 0
  | n + 1, i => if E i = 0 then firstE E n (i + 1) else E i
theorem firstE_step {E : Nat → Int} {i m : Nat} (hi : i < m) : firstE E (m - i) i = if E i = 0 then firstE E (m - (i + 1)) (i + 1) else E i := by
  rw [show m - i = (m - (i + 1)) + 1 by omega, firstE]
theorem firstE_ok {E : Nat → Int} : ∀ (n i : Nat), firstE E n i = 0 → ∀ k, i ≤ k → k < i + n → E k = 0
  | 0, _, _, _, _, _ => by omega
  | n + 1, i, h0, k, h1, h2 => by
    rw [firstE] at h0
    by_cases c : E i = 0
    · rw [if_pos c] at h0
      by_cases e : k = i
      · subst e; exact c
      · exact firstE_ok n (i + 1) h0 k (by omega) (by omega)
    · rw [if_neg c] at h0
      exact absurd h0 c
/-- a list by its values -/
def tabL {α : Type} (n : Nat) (G : Int → α) : List α := (List.range n).map fun i : Nat => G (i : Int)
section
variable {α : Type} {n : Nat} {G G' : Int → α}
theorem tabL_length (n : Nat) (G : Int → α) : (tabL n G).length = n := by rw [tabL, List.length_map, List.length_range]
theorem tabL_getElem {q : Nat} (h : q < (tabL n G).length) : (tabL n G)[q] = G q := by simp only [tabL, List.getElem_map, List.getElem_range]
theorem tabL_getD {d : α} {i : Int} (h0 : 0 ≤ i) (h1 : i < n) : (tabL n G).getD i.toNat d = G i := by
  rw [List.getD_eq_getElem?_getD, List.getElem?_eq_getElem (by rw [tabL_length]; omega), Option.getD_some, tabL_getElem, Int.toNat_of_nonneg h0]
theorem tabL_congr (h : ∀ i : Int, 0 ≤ i → i < (n : Int) → G i = G' i) : tabL n G = tabL n G' := List.map_congr_left fun i hi => h i (by omega) (by have := List.mem_range.1 hi; omega)
theorem tabL_set {k : Int} {v : α} (h0 : 0 ≤ k) (hk : G' k = v) (h : ∀ i : Int, 0 ≤ i → i < (n : Int) → i ≠ k → G i = G' i) : (tabL n G).set k.toNat v = tabL n G' := by
  refine List.ext_getElem (by rw [List.length_set, tabL_length, tabL_length]) fun q g1 g2 => ?_
  rw [List.getElem_set, tabL_getElem, tabL_getElem]
  rw [tabL_length] at g2
  split
  · rename_i e
    rw [← hk, ← e, Int.toNat_of_nonneg h0]
  · exact h q (by omega) (by omega) (by omega)
theorem tabL_rep {d : α} (h : ∀ i : Int, 0 ≤ i → i < (n : Int) → G i = d) : tabL n G = List.replicate n d := by
  refine List.ext_getElem (by rw [tabL_length, List.length_replicate]) fun q g1 g2 => ?_
  rw [tabL_getElem, List.getElem_replicate]
  rw [tabL_length] at g1
  exact h q (by omega) (by omega)
end
end Go.Proofs.Ytdfocbeejgcglaa
/- Numbers, tests, colours: what the small functions compute. -/
namespace Go.Proofs.Ytdfocbeejgcglaa
open Go Go.RowKit
set_option linter.unusedSimpArgs false
set_option linter.unusedSectionVars false
set_option linter.unusedVariables false

theorem within_s (fu : Nat) (x lo hi : Int) : R_Within_r fu (x, (lo, (hi, ()))) = some (decide (lo ≤ x ∧ x ≤ hi), ()) := by
  unfold R_Within_r
  by_cases h : lo ≤ x
  · rw [bif_pos h]
    by_cases h' : x ≤ hi
    · rw [decide_eq_true h', decide_eq_true ⟨h, h'⟩]
    · rw [decide_eq_false h', decide_eq_false (by omega)]
  · rw [bif_neg h, decide_eq_false (by omega)]
theorem none_s (fu : Nat) (z : Bool) (g w : Int) : law_none_r fu (z, (g, (w, ()))) = some (z && decide (g = w), ()) := by
  unfold law_none_r
  cases z <;> rfl
def labR (c : Int × Int × Int) : Int := if 0 ≤ c.1 ∧ c.1 ≤ 10000 ∧ -12800 ≤ c.2.1 ∧ c.2.1 ≤ 12800 ∧ -12800 ≤ c.2.2 ∧ c.2.2 ≤ 12800 then 0 else 3
theorem labR_or (c : Int × Int × Int) : (labR c = 0 ∧ 0 ≤ c.1 ∧ c.1 ≤ 10000 ∧ -12800 ≤ c.2.1 ∧ c.2.1 ≤ 12800 ∧ -12800 ≤ c.2.2 ∧ c.2.2 ≤ 12800) ∨ labR c = 3 := by
  unfold labR
  split
  · rename_i h; exact .inl ⟨rfl, h⟩
  · exact .inr rfl
theorem labErr_s (fu : Nat) (c : Int × Int × Int) : R_LabErr_r fu ((c.1, (c.2.1, c.2.2)), ()) = some (labR c, ()) := by
  obtain ⟨l, a, b⟩ := c
  unfold R_LabErr_r labR
  simp only [joinF_eq, within_s, bindO_some]
  by_cases h1 : 0 ≤ l ∧ l ≤ 10000
  · rw [decide_eq_true h1]
    by_cases h2 : -12800 ≤ a ∧ a ≤ 12800
    · rw [decide_eq_true h2]
      by_cases h3 : -12800 ≤ b ∧ b ≤ 12800
      · rw [decide_eq_true h3, if_pos (by omega)]; rfl
      · rw [decide_eq_false h3, if_neg (by omega)]; rfl
    · rw [decide_eq_false h2, if_neg (by omega)]; rfl
  · rw [decide_eq_false h1, if_neg (by omega)]; rfl
theorem refChk_s (fu : Nat) (c : Int × Int × Int) : refspace_Check_r fu ((c.1, (c.2.1, c.2.2)), ()) = some (labR c, ()) := by
  obtain ⟨l, a, b⟩ := c
  unfold refspace_Check_r labR
  simp only [joinF_eq]
  by_cases h1 : l < 0
  · rw [bif_pos h1, if_neg (by omega)]; rfl
  rw [bif_neg h1]
  by_cases h2 : 10000 < l
  · rw [bif_pos h2, if_neg (by omega)]; rfl
  rw [bif_neg h2]
  by_cases h3 : a < -12800
  · rw [bif_pos h3, if_neg (by omega)]; rfl
  rw [bif_neg h3]
  by_cases h4 : 12800 < a
  · rw [bif_pos h4, if_neg (by omega)]; rfl
  rw [bif_neg h4]
  by_cases h5 : b < -12800
  · rw [bif_pos h5, if_neg (by omega)]; rfl
  rw [bif_neg h5]
  by_cases h6 : 12800 < b
  · rw [decide_eq_true h6, if_neg (by omega)]; rfl
  rw [decide_eq_false h6, if_pos (by omega)]; rfl
theorem floor_s (fu : Nat) {n d : Int} (hd : 0 < d) (h1 : d ≤ 9223372036854775807) (h2 : -9223372036854775808 ≤ n) (h3 : n ≤ 9223372036854775807) : R_Floor_r fu (n, (d, ())) = some (n / d, ()) := by
  unfold R_Floor_r
  simp only [joinF_eq]
  rw [bif_pos (by omega)]
  have hm := Int.tmod_add_mul_tdiv n d
  have hm1 := Int.natAbs_tmod n d
  have h4 : n.tdiv d * d = n - n.tmod d := by rw [Int.mul_comm]; omega
  have h5 : (n.tmod d).natAbs ≤ n.natAbs := by rw [hm1]; exact Nat.mod_le _ _
  have hb : -9223372036854775808 ≤ n.tdiv d * d ∧ n.tdiv d * d ≤ 9223372036854775807 := by
    rcases Int.le_total 0 n with hn | hn
    · have := Int.tmod_nonneg d hn; omega
    · have := Int.tmod_nonneg (a := -n) d (by omega)
      rw [Int.neg_tmod] at this
      omega
  obtain ⟨b1, b2⟩ := hb
  have hq := Int.natAbs_tdiv n d
  have hq' : (n.tdiv d).natAbs ≤ n.natAbs := by rw [hq]; exact Nat.div_le_self _ _
  have hq3 : n.tdiv d ≤ 9223372036854775807 := by
    rcases Int.le_total 0 n with hn | hn
    · omega
    · have := Int.tdiv_nonneg (a := -n) (b := d) (by omega) (by omega)
      rw [Int.neg_tdiv] at this
      omega
  rw [wr64 (x := n.tdiv d) (by omega) hq3, wr64 (x := n.tdiv d * d) b1 b2]
  by_cases hc : n < n.tdiv d * d
  · have hlow : -9223372036854775807 ≤ n.tdiv d := by
      rcases Int.lt_or_le d 2 with g | g
      · obtain rfl : d = 1 := by omega
        rw [Int.tdiv_one] at hc
        omega
      · have h6 : (n.tdiv d).natAbs ≤ n.natAbs / 2 := by
          rw [hq]
          exact Nat.div_le_div_left (by omega) (by omega)
        omega
    rw [bif_pos hc, wr64 (x := n.tdiv d - 1) (by omega) (by omega), tdiv_over hd hc]; rfl
  · rw [bif_neg hc, tdiv_under hd (by omega)]; rfl
theorem floor_mul' {n d : Int} (hd : 0 < d) : n / d * d ≤ n ∧ n < n / d * d + d := by
  have h1 := Int.mul_ediv_add_emod n d
  have h2 := Int.emod_nonneg n (by omega : d ≠ 0)
  have h3 := Int.emod_lt_of_pos n hd
  rw [Int.mul_comm] at h1
  omega
theorem round_s (fu : Nat) {n d : Int} (hd : 0 < d) (h1 : d ≤ 1000000000000000) (h2 : -1000000000000000000 ≤ n) (h3 : n ≤ 1000000000000000000) : R_Round_r fu (n, (d, ())) = some (rnd n d, ()) := by
  unfold R_Round_r
  simp only
  rw [floor_s fu hd (by omega) (by omega) (by omega)]
  simp only [bindO_some, joinF_eq]
  obtain ⟨b1, b2⟩ := floor_mul' (n := n) hd
  have hq : -1000000000000000001 ≤ n / d ∧ n / d ≤ 1000000000000000000 := by
    constructor
    · rcases Int.lt_or_le (n / d) 0 with g | g
      · have : n / d * d ≤ n / d * 1 := Int.mul_le_mul_of_nonpos_left (by omega) (by omega)
        have h4 : n / d * d - n / d * 1 ≤ 0 := by omega
        have h5 : (n / d + 1) * d ≤ (n / d + 1) * 1 := Int.mul_le_mul_of_nonpos_left (by omega) (by omega)
        rw [Int.add_mul] at h5
        omega
      · omega
    · rcases Int.lt_or_le (n / d) 1 with g | g
      · omega
      · have : n / d * 1 ≤ n / d * d := Int.mul_le_mul_of_nonneg_left (by omega) (by omega)
        omega
  rw [wr64 (x := n / d * d) (by omega) (by omega), wr64 (x := n - n / d * d) (by omega) (by omega), wr64 (x := 2 * (n - n / d * d)) (by omega) (by omega)]
  by_cases hc : d ≤ 2 * (n - n / d * d)
  · rw [bif_pos hc, wr64 (x := n / d + 1) (by omega) (by omega), rnd_up hd hc]; rfl
  · rw [bif_neg hc, rnd_down hd (by omega)]; rfl
theorem nearest_s (fu : Nat) {n d : Int} (hd : 0 < d) (h1 : d ≤ 1000000000000000) (h2 : -1000000000000000000 ≤ n) (h3 : n ≤ 1000000000000000000) : curve_Nearest_r fu (n, (d, ())) = some (rnd n d, ()) := by
  obtain ⟨g1, g2⟩ := tdiv_abs (n := 2 * n + d) (m := 2002000000000000000) (2 * d) (by omega) (by omega)
  unfold curve_Nearest_r rnd
  simp only [joinF_eq]
  rw [wr64 (x := 2 * n) (by omega) (by omega), wr64 (x := 2 * n + d) (by omega) (by omega), wr64 (x := 2 * d) (by omega) (by omega), bif_pos (by omega), bif_pos (by omega), wr64 (x := (2 * n + d).tdiv (2 * d)) (by omega) (by omega)]
  by_cases hc : (2 * n + d).tmod (2 * d) < 0
  · rw [bif_pos hc, wr64 (x := (2 * n + d).tdiv (2 * d) - 1) (by omega) (by omega), tdiv_neg (by omega) hc]; rfl
  · rw [bif_neg hc, tdiv_pos (by omega) (by omega)]; rfl
end Go.Proofs.Ytdfocbeejgcglaa
/- Loops by their first error, by what is found, by a postcondition. No program in sight. -/
namespace Go.Proofs.Ytdfocbeejgcglaa
open Go Go.RowKit
set_option linter.unusedSimpArgs false
set_option linter.unusedSectionVars false
set_option linter.unusedVariables false
/-- a loop by an invariant and a postcondition of its result -/
theorem postLoop {X β : Type} {f : (X → Option β) → X → Option β} (μ : X → Nat) (I : X → Prop) (Q : Option β → Prop)
    (h : ∀ j x, I x → (∃ x', I x' ∧ μ x' < μ x ∧ f j x = j x') ∨ Q (f j x)) : ∀ (fu : Nat) (x : X), I x → μ x < fu → Q (loopF f fu x)
  | 0, _, _, h0 => absurd h0 (Nat.not_lt_zero _)
  | fu + 1, x, hI, hm => by
    rw [loopF]
    rcases h (loopF f fu) x hI with ⟨x', h1, h2, h3⟩ | h3
    · rw [h3]
      exact postLoop μ I Q h fu x' h1 (by omega)
    · exact h3
section
variable {β : Type} {f : (Int → Option β) → Int → Option β} {n fu : Nat} (hn : n < fu)
include hn
theorem errLoop {E : Nat → Int} {out : Int → Option β} {fin : Option β}
    (step : ∀ j (i : Nat), i < n → f j i = if E i = 0 then j ((i : Int) + 1) else out (E i)) (last : ∀ j, f j n = fin) :
    loopF f fu 0 = if firstE E n 0 = 0 then fin else out (firstE E n 0) := by
  refine loopF_spec (f := f) (fun i : Int => ((n : Int) - i).toNat) (fun i => 0 ≤ i ∧ i ≤ n) (fun i => if firstE E (n - i.toNat) i.toNat = 0 then fin else out (firstE E (n - i.toNat) i.toNat)) ?_ fu 0 ⟨by omega, by omega⟩ (by omega)
  rintro j i ⟨k0, k1⟩ ih
  obtain ⟨i, rfl⟩ := Int.eq_ofNat_of_zero_le k0
  by_cases hi : i < n
  · rw [step j i hi]
    have ih' := ih ((i : Int) + 1) ⟨by omega, by omega⟩ (by omega)
    rw [show ((i : Int) + 1).toNat = i + 1 by omega] at ih'
    rw [Int.toNat_natCast, firstE_step hi]
    by_cases e : E i = 0
    · simp only [if_pos e]; exact ih'
    · simp only [if_neg e]
  · have e : i = n := by omega
    subst e
    rw [last, Int.toNat_natCast, Nat.sub_self]; rfl
theorem findLoop {p : Nat → Prop} {hit : Nat → Option β} {miss : Option β} (hit' : ∀ j (i : Nat), i < n → p i → f j i = hit i) (next : ∀ j (i : Nat), i < n → ¬ p i → f j i = j ((i : Int) + 1)) (last : ∀ j, f j n = miss) :
    (∃ k, k < n ∧ p k ∧ (∀ l, l < k → ¬ p l) ∧ loopF f fu 0 = hit k) ∨ ((∀ l, l < n → ¬ p l) ∧ loopF f fu 0 = miss) := by
  refine postLoop (f := f) (fun i : Int => ((n : Int) - i).toNat) (fun i => ∃ k : Nat, i = k ∧ k ≤ n ∧ ∀ l, l < k → ¬ p l) (fun r => (∃ k, k < n ∧ p k ∧ (∀ l, l < k → ¬ p l) ∧ r = hit k) ∨ ((∀ l, l < n → ¬ p l) ∧ r = miss)) ?_ fu 0 ⟨0, rfl, by omega, by omega⟩ (by omega)
  rintro j _ ⟨i, rfl, k1, k2⟩
  by_cases hi : i < n
  · by_cases hp : p i
    · exact .inr (.inl ⟨i, hi, hp, k2, hit' j i hi hp⟩)
    · refine .inl ⟨(i : Int) + 1, ⟨i + 1, by omega, by omega, fun l hl => ?_⟩, by omega, next j i hi hp⟩
      by_cases e : l = i
      · rw [e]; exact hp
      · exact k2 l (by omega)
  · have e : i = n := by omega
    subst e
    exact .inr (.inr ⟨k2, last j⟩)
theorem downLoop {p : Nat → Prop} {hit : Nat → Option β} {miss : Option β} (hit' : ∀ j (i : Nat), i < n → p i → f j i = hit i) (next : ∀ j (i : Nat), i < n → ¬ p i → f j i = j ((i : Int) - 1)) (last : ∀ j, f j (-1) = miss) :
    (∃ k, k < n ∧ p k ∧ (∀ l, k < l → l < n → ¬ p l) ∧ loopF f fu ((n : Int) - 1) = hit k) ∨ ((∀ l, l < n → ¬ p l) ∧ loopF f fu ((n : Int) - 1) = miss) := by
  refine postLoop (f := f) (fun i : Int => (i + 1).toNat) (fun i => -1 ≤ i ∧ i < n ∧ ∀ l : Nat, i < l → l < n → ¬ p l) (fun r => (∃ k, k < n ∧ p k ∧ (∀ l, k < l → l < n → ¬ p l) ∧ r = hit k) ∨ ((∀ l, l < n → ¬ p l) ∧ r = miss)) ?_ fu ((n : Int) - 1) ⟨by omega, by omega, by omega⟩ (by omega)
  rintro j i ⟨k0, k1, k2⟩
  by_cases hi : 0 ≤ i
  · obtain ⟨i, rfl⟩ := Int.eq_ofNat_of_zero_le hi
    by_cases hp : p i
    · exact .inr (.inl ⟨i, by omega, hp, fun l h1 h2 => k2 l (by omega) h2, hit' j i (by omega) hp⟩)
    · refine .inl ⟨(i : Int) - 1, ⟨by omega, by omega, fun l h1 h2 => ?_⟩, by omega, next j i (by omega) hp⟩
      by_cases e : l = i
      · rw [e]; exact hp
      · exact k2 l (by omega) h2
  · have e : i = -1 := by omega
    subst e
    exact .inr (.inr ⟨fun l hl => k2 l (by omega) hl, last j⟩)
end
theorem firstE_at {E : Nat → Int} {i : Nat} (hE : E i ≠ 0) : ∀ (m i0 : Nat), i0 ≤ i → i < i0 + m → (∀ k, i0 ≤ k → k < i → E k = 0) → firstE E m i0 = E i
  | 0, i0, h1, h2, _ => by omega
  | m + 1, i0, h1, h2, h => by
    rw [firstE]
    by_cases e : i0 = i
    · subst e; rw [if_neg hE]
    · rw [if_pos (h i0 (Nat.le_refl _) (by omega))]
      exact firstE_at hE m (i0 + 1) (by omega) (by omega) fun k g1 g2 => h k (by omega) g2
theorem firstE_all {E : Nat → Int} : ∀ (m i0 : Nat), (∀ k, i0 ≤ k → k < i0 + m → E k = 0) → firstE E m i0 = 0
  | 0, _, _ => rfl
  | m + 1, i0, h => by
    rw [firstE, if_pos (h i0 (Nat.le_refl _) (by omega))]
    exact firstE_all m (i0 + 1) fun k g1 g2 => h k (by omega) (by omega)
/-- a loop over a list with a state, left at the first error -/
theorem errFold {σ β : Type} {f : (Int × σ → Option β) → Int × σ → Option β} {n fu : Nat} (hn : n < fu) {A : Nat → σ} {E : Nat → Int} {out : Int → Option β} {fin : Option β}
    (step : ∀ j (i : Nat), i < n → (∀ k, k < i → E k = 0) → f j (i, A i) = if E i = 0 then j ((i : Int) + 1, A (i + 1)) else out (E i)) (last : (∀ k, k < n → E k = 0) → ∀ j, f j (n, A n) = fin) :
    loopF f fu (0, A 0) = if firstE E n 0 = 0 then fin else out (firstE E n 0) := by
  refine postLoop (f := f) (fun x : Int × σ => ((n : Int) - x.1).toNat) (fun x => ∃ i : Nat, x = ((i : Int), A i) ∧ i ≤ n ∧ ∀ k, k < i → E k = 0) (fun r => r = if firstE E n 0 = 0 then fin else out (firstE E n 0)) ?_ fu (0, A 0) ⟨0, rfl, by omega, by omega⟩ (by simp only; omega)
  rintro j _ ⟨i, rfl, k1, k2⟩
  by_cases hi : i < n
  · rw [step j i hi k2]
    by_cases e : E i = 0
    · refine .inl ⟨((i : Int) + 1, A (i + 1)), ⟨i + 1, rfl, by omega, fun k hk => ?_⟩, by simp only; omega, if_pos e⟩
      by_cases q : k = i
      · rw [q]; exact e
      · exact k2 k (by omega)
    · refine .inr ?_
      rw [if_neg e, firstE_at e n 0 (by omega) (by omega) fun k _ hk => k2 k hk, if_neg e]
  · have e : i = n := by omega
    subst e
    refine .inr ?_
    rw [last k2, firstE_all i 0 fun k _ hk => k2 k (by omega), if_pos rfl]
theorem tabL_self (l : List Int) : tabL l.length (fun o => l.getD o.toNat 0) = l := by
  refine List.ext_getElem (tabL_length _ _) fun q g1 g2 => ?_
  rw [tabL_getElem, Int.toNat_natCast, List.getD_eq_getElem?_getD, List.getElem?_eq_getElem g2]; rfl
theorem tabL_getDN {α : Type} {n i : Nat} {G : Int → α} {d : α} (h : i < n) : (tabL n G).getD i d = G i := by
  have := tabL_getD (n := n) (G := G) (d := d) (i := (i : Int)) (by omega) (by omega)
  rw [Int.toNat_natCast] at this; exact this
theorem tabL_succ {α : Type} (n : Nat) (G : Int → α) : tabL (n + 1) G = tabL n G ++ [G n] := by
  unfold tabL
  rw [List.range_succ, List.map_append]; rfl
/-- a loop over a list that only steps on -/
theorem foldLoop {σ β : Type} {f : (Int × σ → Option β) → Int × σ → Option β} {n fu : Nat} (hn : n < fu) (I : Nat → σ → Prop) {fin : σ → Option β} {s0 : σ} (h0 : I 0 s0)
    (step : ∀ j (i : Nat) s, i < n → I i s → ∃ s', I (i + 1) s' ∧ f j (i, s) = j ((i : Int) + 1, s')) (last : ∀ j s, I n s → f j (n, s) = fin s) : ∃ s, I n s ∧ loopF f fu (0, s0) = fin s := by
  refine postLoop (f := f) (fun x : Int × σ => ((n : Int) - x.1).toNat) (fun x => ∃ k : Nat, x.1 = k ∧ k ≤ n ∧ I k x.2) (fun r => ∃ s, I n s ∧ r = fin s) ?_ fu (0, s0) ⟨0, rfl, by omega, h0⟩ (by simp only; omega)
  rintro j ⟨_, s⟩ ⟨i, rfl, k1, k2⟩
  by_cases hi : i < n
  · obtain ⟨s', g1, g2⟩ := step j i s hi k2
    exact .inl ⟨((i : Int) + 1, s'), ⟨i + 1, by simp, by omega, g1⟩, by simp only; omega, g2⟩
  · have e : i = n := by omega
    subst e
    exact .inr ⟨s, k2, last j s k2⟩
end Go.Proofs.Ytdfocbeejgcglaa
/- Curves: what Check, CurveErr, Raw and CurveAt compute. -/
namespace Go.Proofs.Ytdfocbeejgcglaa
open Go Go.RowKit
set_option linter.unusedSimpArgs false
set_option linter.unusedSectionVars false
set_option linter.unusedVariables false
structure CurveOk (ps : List (Int × Int)) : Prop where
  two : 2 ≤ ps.length
  most : ps.length ≤ 33
  bd : ∀ (i : Nat) (x y : Int), ps[i]? = some (x, y) → 0 ≤ x ∧ x ≤ 65280 ∧ 0 ≤ y ∧ y ≤ 65280
  step : ∀ (i : Nat) (x y u v : Int), ps[i]? = some (x, y) → ps[i + 1]? = some (u, v) → x < u ∧ y ≤ v
  first : ∀ x y, ps[0]? = some (x, y) → x = 0
  last : ∀ x y, ps[ps.length - 1]? = some (x, y) → x = 65280

theorem CurveOk.le {ps : List (Int × Int)} (h : CurveOk ps) {i j : Nat} (hij : i ≤ j) {x y u v : Int} (hi : ps[i]? = some (x, y)) (hj : ps[j]? = some (u, v)) : x ≤ u ∧ y ≤ v ∧ (i < j → x < u) := by
  induction j generalizing u v with
  | zero =>
    obtain rfl : i = 0 := by omega
    rw [hi] at hj; simp at hj; omega
  | succ j ih =>
    rcases Nat.lt_or_ge i (j + 1) with hlt | hge
    · have hjl : j < ps.length := by have := (List.getElem?_eq_some_iff.1 hj).1; omega
      obtain ⟨⟨a, b⟩, hab⟩ : ∃ p, ps[j]? = some p := ⟨_, List.getElem?_eq_getElem hjl⟩
      have h1 := ih (by omega) hab
      have h2 := h.step j a b u v hab hj
      omega
    · obtain rfl : i = j + 1 := by omega
      rw [hi] at hj; simp at hj; omega

/-- the value on the way through the segments -/
def curveAtL (x : Int) : Int × Int → List (Int × Int) → Int
  | _, [] => -1
  | p, q :: r => if x ≤ q.1 then rnd (p.2 * (q.1 - x) + q.2 * (x - p.1)) (q.1 - p.1) else curveAtL x q r
/-- the value of a curve at x -/
def curveAt (ps : List (Int × Int)) (x : Int) : Int := curveAtL x (ps.getD 0 (0, 0)) (ps.drop 1)

/-- the value on the segment from (a, b) to (c, d) -/
def segV (x a b c d : Int) : Int := rnd (b * (c - x) + d * (x - a)) (c - a)
theorem rnd_add (a b : Int) {d : Int} (hd : 0 < d) : rnd (a * d + b) d = a + rnd b d := by
  unfold rnd
  rw [show 2 * (a * d + b) + d = (2 * b + d) + (2 * d) * a from by rw [Int.mul_add, Int.mul_assoc, Int.mul_comm d a]; omega]
  rw [Int.add_mul_ediv_left _ _ (by omega), Int.add_comm]
theorem rnd_zero {d : Int} (hd : 0 < d) : rnd 0 d = 0 := by
  unfold rnd
  exact Int.ediv_eq_zero_of_lt (by omega) (by omega)
theorem segV_eq {x a b c d : Int} (h : a < c) : segV x a b c d = b + rnd ((d - b) * (x - a)) (c - a) := by
  unfold segV
  rw [← rnd_add b _ (by omega)]
  congr 1
  simp only [Int.mul_sub, Int.sub_mul]
  omega
theorem segV_end {a b c d : Int} (h : a < c) : segV c a b c d = d := by
  unfold segV
  rw [Int.sub_self, Int.mul_zero, Int.zero_add]
  have := rnd_add d 0 (d := c - a) (by omega)
  rw [Int.add_zero, rnd_zero (by omega)] at this
  omega
theorem segV_start {a b c d : Int} (h : a < c) : segV a a b c d = b := by
  rw [segV_eq h, Int.sub_self, Int.mul_zero, rnd_zero (by omega)]; omega

theorem curveAtL_seg {x : Int} {p : Int × Int} {l : List (Int × Int)} {i : Nat} {a b c d : Int} (hlo : ∀ (j : Nat) (u v : Int), j < i → l[j]? = some (u, v) → u < x) (hi : (p :: l)[i]? = some (a, b)) (hi' : l[i]? = some (c, d)) (hx : x ≤ c) :
    curveAtL x p l = segV x a b c d := by
  induction l generalizing p i with
  | nil => simp at hi'
  | cons q r ih =>
    cases i with
    | zero =>
      simp only [List.getElem?_cons_zero, Option.some.injEq] at hi hi'
      subst hi; subst hi'
      rw [curveAtL, if_pos hx]; rfl
    | succ i =>
      have := hlo 0 q.1 q.2 (by omega) rfl
      rw [curveAtL, if_neg (by omega)]
      exact ih (fun j u v hj hl => hlo (j + 1) u v (Nat.succ_lt_succ hj) (by simpa using hl)) (by simpa using hi) (by simpa using hi')

/-- the value by the segment i: x lies behind its start (or it is the first) and not behind its end -/
theorem curveAt_seg {ps : List (Int × Int)} (h : CurveOk ps) {x : Int} {i : Nat} {a b c d : Int} (hi : ps[i]? = some (a, b)) (hi' : ps[i + 1]? = some (c, d)) (h0 : i = 0 ∨ a < x) (hx : x ≤ c) : curveAt ps x = segV x a b c d := by
  cases ps with
  | nil => simp at hi
  | cons p l =>
    refine curveAtL_seg (i := i) ?_ (by simpa using hi) (by simpa using hi') hx
    intro j u v hj hl
    have := h.le (i := j + 1) (j := i) (by omega) (by simpa using hl) hi
    omega
/-- the value by the segment that a search finds: x does not lie ahead of its start, and lies ahead of its end or it is the last -/
theorem curveAt_found {ps : List (Int × Int)} (h : CurveOk ps) {x : Int} {i : Nat} {a b c d : Int} (hi : ps[i]? = some (a, b)) (hi' : ps[i + 1]? = some (c, d)) (h0 : a ≤ x) (hx : x < c ∨ i + 1 = ps.length - 1) (hx' : x ≤ 65280) :
    curveAt ps x = segV x a b c d := by
  have hxc : x ≤ c := by
    rcases hx with hx | hx
    · omega
    · have := h.last c d (by rw [← hx]; exact hi'); omega
  rcases Nat.eq_zero_or_pos i with rfl | hp
  · exact curveAt_seg h hi hi' (.inl rfl) hxc
  rcases Int.lt_or_eq_of_le h0 with hlt | rfl
  · exact curveAt_seg h hi hi' (.inr hlt) hxc
  · have hil : i - 1 < ps.length := by have := (List.getElem?_eq_some_iff.1 hi).1; omega
    obtain ⟨⟨e, f⟩, hef⟩ : ∃ p, ps[i - 1]? = some p := ⟨_, List.getElem?_eq_getElem hil⟩
    have hi2 : ps[i - 1 + 1]? = some (a, b) := by rw [show i - 1 + 1 = i from by omega]; exact hi
    have s1 := h.step (i - 1) e f a b hef hi2
    have s2 := h.step i a b c d hi hi'
    rw [curveAt_seg h hef hi2 (.inr s1.1) (Int.le_refl _), segV_end s1.1, segV_start s2.1]
theorem segV_bd {x a b c d : Int} (h1 : a < c) (h2 : a ≤ x) (h3 : x ≤ c) (h4 : 0 ≤ b) (h5 : b ≤ d) (h6 : d ≤ 65280) : 0 ≤ segV x a b c d ∧ segV x a b c d ≤ 65280 := by
  rw [segV_eq h1]
  have e1 : 0 ≤ (d - b) * (x - a) := Int.mul_nonneg (by omega) (by omega)
  have e2 : (d - b) * (x - a) ≤ (d - b) * (c - a) := Int.mul_le_mul_of_nonneg_left (by omega) (by omega)
  have e3 : 0 ≤ rnd ((d - b) * (x - a)) (c - a) := by unfold rnd; exact Int.ediv_nonneg (by omega) (by omega)
  have e4 : rnd ((d - b) * (x - a)) (c - a) ≤ d - b := by
    have e5 := rnd_add (d - b) 0 (d := c - a) (by omega)
    rw [Int.add_zero, rnd_zero (by omega), Int.add_zero] at e5
    have e6 : rnd ((d - b) * (x - a)) (c - a) ≤ rnd ((d - b) * (c - a)) (c - a) := by
      unfold rnd
      exact Int.ediv_le_ediv (by omega) (by omega)
    omega
  omega
theorem curveAt_first {ps : List (Int × Int)} (h : CurveOk ps) {x : Int} (h0 : 0 ≤ x) (h1 : x ≤ 65280) : ∃ i a b c d, ps[i]? = some (a, b) ∧ ps[i + 1]? = some (c, d) ∧ a ≤ x ∧ x ≤ c ∧ (i = 0 ∨ a < x) ∧ curveAt ps x = segV x a b c d := by
  have key : ∀ n i, n + i + 1 = ps.length → (∀ a b, ps[i]? = some (a, b) → i = 0 ∧ a ≤ x ∨ a < x) → i + 1 < ps.length ∨ i = 0 →
      ∃ i a b c d, ps[i]? = some (a, b) ∧ ps[i + 1]? = some (c, d) ∧ a ≤ x ∧ x ≤ c ∧ (i = 0 ∨ a < x) ∧ curveAt ps x = segV x a b c d := by
    intro n
    induction n with
    | zero => intro i hi _ h'; have := h.two; omega
    | succ n ih =>
      intro i hi hlo _
      obtain ⟨⟨a, b⟩, hab⟩ : ∃ p, ps[i]? = some p := ⟨_, List.getElem?_eq_getElem (by omega)⟩
      obtain ⟨⟨c, d⟩, hcd⟩ : ∃ p, ps[i + 1]? = some p := ⟨_, List.getElem?_eq_getElem (by omega)⟩
      have hl := hlo a b hab
      by_cases hx : x ≤ c
      · exact ⟨i, a, b, c, d, hab, hcd, by omega, hx, by omega, curveAt_seg h hab hcd (by omega) hx⟩
      · have hne : i + 1 ≠ ps.length - 1 := by
          intro he
          have := h.last c d (by rw [← he]; exact hcd)
          omega
        refine ih (i + 1) (by omega) ?_ (.inl (by omega))
        intro a' b' h'
        rw [hcd] at h'
        simp at h'
        omega
  have h2 := h.two
  refine key (ps.length - 1) 0 (by omega) ?_ (.inr rfl)
  intro a b hab
  have := h.first a b hab
  omega
theorem curveAt_bd {ps : List (Int × Int)} (h : CurveOk ps) {x : Int} (h0 : 0 ≤ x) (h1 : x ≤ 65280) : 0 ≤ curveAt ps x ∧ curveAt ps x ≤ 65280 := by
  obtain ⟨i, a, b, c, d, hi, hi', g1, g2, _, g4⟩ := curveAt_first h h0 h1
  have b1 := h.bd i a b hi
  have b2 := h.bd (i + 1) c d hi'
  have b3 := h.step i a b c d hi hi'
  rw [g4]
  exact segV_bd b3.1 g1 g2 b1.2.2.1 b3.2 b2.2.2.2


/-- point i -/
def cP (ps : List (Int × Int)) (i : Nat) : Int × Int := ps.getD i (0, 0)
theorem cP_of {ps : List (Int × Int)} {i : Nat} {p : Int × Int} (h : ps[i]? = some p) : cP ps i = p := by
  unfold cP; rw [List.getD_eq_getElem?_getD, h]; rfl
theorem cP_get {ps : List (Int × Int)} {i : Nat} (h : i < ps.length) : ps[i]? = some ((cP ps i).1, (cP ps i).2) := by
  unfold cP; rw [List.getD_eq_getElem?_getD, List.getElem?_eq_getElem h]; rfl
/-- the error of point i -/
def ptE (ps : List (Int × Int)) (i : Nat) : Int :=
  if (0 ≤ (cP ps i).1 ∧ (cP ps i).1 ≤ 65280) ∧ 0 ≤ (cP ps i).2 ∧ (cP ps i).2 ≤ 65280 then
    (if 0 < i ∧ ((cP ps i).1 ≤ (cP ps (i - 1)).1 ∨ (cP ps i).2 < (cP ps (i - 1)).2) then 18 else 0) else 3
def curE (ps : List (Int × Int)) : Int :=
  if 33 < ps.length then 2 else if ps.length < 2 then 1 else if firstE (ptE ps) ps.length 0 = 0 then (if (cP ps 0).1 = 0 ∧ (cP ps (ps.length - 1)).1 = 65280 then 0 else 4) else firstE (ptE ps) ps.length 0
theorem curE_ok {ps : List (Int × Int)} (h : curE ps = 0) : CurveOk ps := by
  unfold curE at h
  by_cases h0 : 33 < ps.length
  · rw [if_pos h0] at h; omega
  rw [if_neg h0] at h
  by_cases h1 : ps.length < 2
  · rw [if_pos h1] at h; omega
  rw [if_neg h1] at h
  by_cases h2 : firstE (ptE ps) ps.length 0 = 0
  · rw [if_pos h2] at h
    by_cases h3 : (cP ps 0).1 = 0 ∧ (cP ps (ps.length - 1)).1 = 65280
    · have hE : ∀ i, i < ps.length → ptE ps i = 0 := fun i hi => firstE_ok _ 0 h2 i (by omega) (by omega)
      have hB : ∀ i, i < ps.length → ((0 ≤ (cP ps i).1 ∧ (cP ps i).1 ≤ 65280) ∧ 0 ≤ (cP ps i).2 ∧ (cP ps i).2 ≤ 65280) ∧ ¬ (0 < i ∧ ((cP ps i).1 ≤ (cP ps (i - 1)).1 ∨ (cP ps i).2 < (cP ps (i - 1)).2)) := by
        intro i hi
        have e := hE i hi
        unfold ptE at e
        split at e
        · rename_i c; split at e
          · omega
          · rename_i d; exact ⟨c, d⟩
        · omega
      refine ⟨by omega, by omega, ?_, ?_, ?_, ?_⟩
      · intro i x y hx
        have hi := (List.getElem?_eq_some_iff.1 hx).1
        have := (hB i hi).1
        rw [cP_of hx] at this
        exact ⟨this.1.1, this.1.2, this.2.1, this.2.2⟩
      · intro i x y u v hx hu
        have hi := (List.getElem?_eq_some_iff.1 hu).1
        have := (hB (i + 1) hi).2
        rw [Nat.add_sub_cancel, cP_of hx, cP_of hu] at this
        simp only at this
        omega
      · intro x y hx
        have := h3.1
        rw [cP_of hx] at this; exact this
      · intro x y hx
        have := h3.2
        rw [cP_of hx] at this; exact this
    · rw [if_neg h3] at h; omega
  · rw [if_neg h2] at h; exact absurd h h2
section
variable {fu : Nat} (hf : 18446744073709551616 ≤ fu) {ps : List (Int × Int)}
include hf
theorem curCheck_r : curve_Check_r fu (ps, ()) = some (curE ps, ()) := by
  unfold curve_Check_r curE
  by_cases c1 : 33 < ps.length
  · rw [if_pos c1]; simp (disch := omega) only [joinF_eq, bindO_some, s_wr, s_td, s_tm, s_pos, s_neg, cond_true, cond_false, Bool.not_true, Bool.not_false, Bool.true_and, Bool.and_true, Bool.false_and, Bool.and_false, bne_self_eq_false, decide_true, decide_false, Int.toNat_natCast]
  rw [if_neg c1]
  by_cases c2 : ps.length < 2
  · rw [if_pos c2]; simp (disch := omega) only [joinF_eq, bindO_some, s_wr, s_td, s_tm, s_pos, s_neg, cond_true, cond_false, Bool.not_true, Bool.not_false, Bool.true_and, Bool.and_true, Bool.false_and, Bool.and_false, bne_self_eq_false, decide_true, decide_false, Int.toNat_natCast]
  rw [if_neg c2]
  simp (disch := omega) only [joinF_eq, bindO_some, s_wr, s_td, s_tm, s_pos, s_neg, cond_true, cond_false, Bool.not_true, Bool.not_false, Bool.true_and, Bool.and_true, Bool.false_and, Bool.and_false, bne_self_eq_false, decide_true, decide_false, Int.toNat_natCast]
  rw [errLoop (n := ps.length) (E := ptE ps) (out := fun e => some (e, ())) (fin := some (if (cP ps 0).1 = 0 ∧ (cP ps (ps.length - 1)).1 = 65280 then 0 else 4, ())) (by omega)]
  · split <;> rfl
  · intro j i hi
    unfold curve_Check_l1
    simp (disch := omega) only [joinF_eq, bindO_some, s_wr, s_td, s_tm, s_pos, s_neg, cond_true, cond_false, Bool.not_true, Bool.not_false, Bool.true_and, Bool.and_true, Bool.false_and, Bool.and_false, bne_self_eq_false, decide_true, decide_false, Int.toNat_natCast]
    show (bif decide ((cP ps i).1 < 0) then _ else bif decide (65280 < (cP ps i).1) then _ else bif decide ((cP ps i).2 < 0) then _ else curve_Check_j2 fu _ _ (cP ps i) j (decide (65280 < (cP ps i).2))) = _
    have t3 : ¬ ((0 ≤ (cP ps i).1 ∧ (cP ps i).1 ≤ 65280) ∧ 0 ≤ (cP ps i).2 ∧ (cP ps i).2 ≤ 65280) → ∀ v, curve_Check_j2 fu (ps, ()) i v j true = if ptE ps i = 0 then j ((i : Int) + 1) else some (ptE ps i, ()) := by
      intro h v
      have : ptE ps i = 3 := by unfold ptE; rw [if_neg h]
      rw [this]; rfl
    by_cases g1 : (cP ps i).1 < 0
    · simp (disch := omega) only [joinF_eq, bindO_some, s_wr, s_td, s_tm, s_pos, s_neg, cond_true, cond_false, Bool.not_true, Bool.not_false, Bool.true_and, Bool.and_true, Bool.false_and, Bool.and_false, bne_self_eq_false, decide_true, decide_false, Int.toNat_natCast]; exact t3 (by omega) _
    by_cases g2 : 65280 < (cP ps i).1
    · simp (disch := omega) only [joinF_eq, bindO_some, s_wr, s_td, s_tm, s_pos, s_neg, cond_true, cond_false, Bool.not_true, Bool.not_false, Bool.true_and, Bool.and_true, Bool.false_and, Bool.and_false, bne_self_eq_false, decide_true, decide_false, Int.toNat_natCast]; exact t3 (by omega) _
    by_cases g3 : (cP ps i).2 < 0
    · simp (disch := omega) only [joinF_eq, bindO_some, s_wr, s_td, s_tm, s_pos, s_neg, cond_true, cond_false, Bool.not_true, Bool.not_false, Bool.true_and, Bool.and_true, Bool.false_and, Bool.and_false, bne_self_eq_false, decide_true, decide_false, Int.toNat_natCast]; exact t3 (by omega) _
    by_cases g4 : 65280 < (cP ps i).2
    · simp (disch := omega) only [joinF_eq, bindO_some, s_wr, s_td, s_tm, s_pos, s_neg, cond_true, cond_false, Bool.not_true, Bool.not_false, Bool.true_and, Bool.and_true, Bool.false_and, Bool.and_false, bne_self_eq_false, decide_true, decide_false, Int.toNat_natCast]; exact t3 (by omega) _
    have hb : (0 ≤ (cP ps i).1 ∧ (cP ps i).1 ≤ 65280) ∧ 0 ≤ (cP ps i).2 ∧ (cP ps i).2 ≤ 65280 := by omega
    have t18 : 0 < i ∧ ((cP ps i).1 ≤ (cP ps (i - 1)).1 ∨ (cP ps i).2 < (cP ps (i - 1)).2) → ptE ps i = 18 := fun h => by unfold ptE; rw [if_pos hb, if_pos h]
    have t0 : ¬ (0 < i ∧ ((cP ps i).1 ≤ (cP ps (i - 1)).1 ∨ (cP ps i).2 < (cP ps (i - 1)).2)) → ptE ps i = 0 := fun h => by unfold ptE; rw [if_pos hb, if_neg h]
    unfold curve_Check_j2
    by_cases z : 0 < i
    · simp (disch := omega) only [joinF_eq, bindO_some, s_wr, s_td, s_tm, s_pos, s_neg, cond_true, cond_false, Bool.not_true, Bool.not_false, Bool.true_and, Bool.and_true, Bool.false_and, Bool.and_false, bne_self_eq_false, decide_true, decide_false, Int.toNat_natCast]
      rw [show ((i : Int) - 1).toNat = i - 1 by omega]
      show (bif decide ((cP ps i).1 ≤ (cP ps (i - 1)).1) then _ else curve_Check_j3 fu _ j (decide ((cP ps i).2 < (cP ps (i - 1)).2))) = _
      by_cases g5 : (cP ps i).1 ≤ (cP ps (i - 1)).1
      · rw [t18 (by omega)]; simp (disch := omega) only [joinF_eq, bindO_some, s_wr, s_td, s_tm, s_pos, s_neg, cond_true, cond_false, Bool.not_true, Bool.not_false, Bool.true_and, Bool.and_true, Bool.false_and, Bool.and_false, bne_self_eq_false, decide_true, decide_false, Int.toNat_natCast, curve_Check_j3]; rfl
      by_cases g6 : (cP ps i).2 < (cP ps (i - 1)).2
      · rw [t18 (by omega)]; simp (disch := omega) only [joinF_eq, bindO_some, s_wr, s_td, s_tm, s_pos, s_neg, cond_true, cond_false, Bool.not_true, Bool.not_false, Bool.true_and, Bool.and_true, Bool.false_and, Bool.and_false, bne_self_eq_false, decide_true, decide_false, Int.toNat_natCast, curve_Check_j3]; rfl
      · rw [t0 (by omega)]; simp (disch := omega) only [joinF_eq, bindO_some, s_wr, s_td, s_tm, s_pos, s_neg, cond_true, cond_false, Bool.not_true, Bool.not_false, Bool.true_and, Bool.and_true, Bool.false_and, Bool.and_false, bne_self_eq_false, decide_true, decide_false, Int.toNat_natCast, curve_Check_j3]; rfl
    · rw [t0 (by omega)]; simp (disch := omega) only [joinF_eq, bindO_some, s_wr, s_td, s_tm, s_pos, s_neg, cond_true, cond_false, Bool.not_true, Bool.not_false, Bool.true_and, Bool.and_true, Bool.false_and, Bool.and_false, bne_self_eq_false, decide_true, decide_false, Int.toNat_natCast, curve_Check_j3]; rfl
  · intro j
    unfold curve_Check_l1
    simp (disch := omega) only [joinF_eq, bindO_some, s_wr, s_td, s_tm, s_pos, s_neg, cond_true, cond_false, Bool.not_true, Bool.not_false, Bool.true_and, Bool.and_true, Bool.false_and, Bool.and_false, bne_self_eq_false, decide_true, decide_false, Int.toNat_natCast]
    rw [show ((ps.length : Int) - 1).toNat = ps.length - 1 by omega]
    show (bif decide ((cP ps 0).1 ≠ 0) then _ else curve_Check_j4 fu (decide ((cP ps (ps.length - 1)).1 ≠ 65280))) = _
    by_cases g1 : (cP ps 0).1 = 0
    · by_cases g2 : (cP ps (ps.length - 1)).1 = 65280
      · rw [if_pos ⟨g1, g2⟩]; simp (disch := omega) only [joinF_eq, bindO_some, s_wr, s_td, s_tm, s_pos, s_neg, cond_true, cond_false, Bool.not_true, Bool.not_false, Bool.true_and, Bool.and_true, Bool.false_and, Bool.and_false, bne_self_eq_false, decide_true, decide_false, Int.toNat_natCast, curve_Check_j4]
      · rw [if_neg (by omega)]; simp (disch := omega) only [joinF_eq, bindO_some, s_wr, s_td, s_tm, s_pos, s_neg, cond_true, cond_false, Bool.not_true, Bool.not_false, Bool.true_and, Bool.and_true, Bool.false_and, Bool.and_false, bne_self_eq_false, decide_true, decide_false, Int.toNat_natCast, curve_Check_j4]
    · rw [if_neg (by omega)]; simp (disch := omega) only [joinF_eq, bindO_some, s_wr, s_td, s_tm, s_pos, s_neg, cond_true, cond_false, Bool.not_true, Bool.not_false, Bool.true_and, Bool.and_true, Bool.false_and, Bool.and_false, bne_self_eq_false, decide_true, decide_false, Int.toNat_natCast, curve_Check_j4]
theorem curErr_r : R_CurveErr_r fu (ps, ()) = some (curE ps, ()) := by
  unfold R_CurveErr_r curE
  by_cases c1 : 33 < ps.length
  · rw [if_pos c1]; simp (disch := omega) only [joinF_eq, bindO_some, s_wr, s_td, s_tm, s_pos, s_neg, cond_true, cond_false, Bool.not_true, Bool.not_false, Bool.true_and, Bool.and_true, Bool.false_and, Bool.and_false, bne_self_eq_false, decide_true, decide_false, Int.toNat_natCast]
  rw [if_neg c1]
  by_cases c2 : ps.length < 2
  · rw [if_pos c2]; simp (disch := omega) only [joinF_eq, bindO_some, s_wr, s_td, s_tm, s_pos, s_neg, cond_true, cond_false, Bool.not_true, Bool.not_false, Bool.true_and, Bool.and_true, Bool.false_and, Bool.and_false, bne_self_eq_false, decide_true, decide_false, Int.toNat_natCast]
  rw [if_neg c2]
  simp (disch := omega) only [joinF_eq, bindO_some, s_wr, s_td, s_tm, s_pos, s_neg, cond_true, cond_false, Bool.not_true, Bool.not_false, Bool.true_and, Bool.and_true, Bool.false_and, Bool.and_false, bne_self_eq_false, decide_true, decide_false, Int.toNat_natCast]
  refine loopF_spec (f := R_CurveErr_l1 fu (ps, ())) (fun s : Int × Int × Int => ((ps.length : Int) - s.2.2).toNat) (fun s => (0 ≤ s.2.2 ∧ s.2.2 ≤ ps.length) ∧ (s.2.2 = 0 → s.1 = -1 ∧ s.2.1 = 0) ∧ (0 < s.2.2 → s.1 = (cP ps (s.2.2.toNat - 1)).1 ∧ s.2.1 = (cP ps (s.2.2.toNat - 1)).2))
    (fun s => some (if firstE (ptE ps) (ps.length - s.2.2.toNat) s.2.2.toNat = 0 then (if (cP ps 0).1 = 0 ∧ (cP ps (ps.length - 1)).1 = 65280 then 0 else 4) else firstE (ptE ps) (ps.length - s.2.2.toNat) s.2.2.toNat, ())) ?_ fu (-1, (0, 0)) ⟨⟨by simp, by simp⟩, by simp, by simp⟩ (by simp; omega)
  rintro j ⟨x, y, i⟩ ⟨⟨k0, k1⟩, k2, k3⟩ ih
  simp only at k0 k1 k2 k3
  obtain ⟨i, rfl⟩ := Int.eq_ofNat_of_zero_le k0
  rw [Int.toNat_natCast] at k3
  unfold R_CurveErr_l1
  by_cases hi : i < ps.length
  · have ih' := ih ((cP ps i).1, ((cP ps i).2, (i : Int) + 1)) ⟨⟨by simp only; omega, by simp only; omega⟩, by simp only; omega, fun _ => by simp only; rw [show ((i : Int) + 1).toNat - 1 = i by omega]; exact ⟨rfl, rfl⟩⟩ (by simp only; omega)
    simp only at ih'
    rw [show ((i : Int) + 1).toNat = i + 1 by omega] at ih'
    simp (disch := omega) only [joinF_eq, bindO_some, s_wr, s_td, s_tm, s_pos, s_neg, cond_true, cond_false, Bool.not_true, Bool.not_false, Bool.true_and, Bool.and_true, Bool.false_and, Bool.and_false, bne_self_eq_false, decide_true, decide_false, Int.toNat_natCast]
    rw [firstE_step hi]
    show bindO (R_Within_r fu ((cP ps i).1, (0, (65280, ())))) _ = _
    rw [within_s]
    simp (disch := omega) only [joinF_eq, bindO_some, s_wr, s_td, s_tm, s_pos, s_neg, cond_true, cond_false, Bool.not_true, Bool.not_false, Bool.true_and, Bool.and_true, Bool.false_and, Bool.and_false, bne_self_eq_false, decide_true, decide_false, Int.toNat_natCast]
    have t3 : ¬ ((0 ≤ (cP ps i).1 ∧ (cP ps i).1 ≤ 65280) ∧ 0 ≤ (cP ps i).2 ∧ (cP ps i).2 ≤ 65280) → ptE ps i = 3 := by
      intro h; unfold ptE; rw [if_neg h]
    by_cases g1 : 0 ≤ (cP ps i).1 ∧ (cP ps i).1 ≤ 65280
    · rw [decide_eq_true g1]
      simp (disch := omega) only [joinF_eq, bindO_some, s_wr, s_td, s_tm, s_pos, s_neg, cond_true, cond_false, Bool.not_true, Bool.not_false, Bool.true_and, Bool.and_true, Bool.false_and, Bool.and_false, bne_self_eq_false, decide_true, decide_false, Int.toNat_natCast]
      show bindO (R_Within_r fu ((cP ps i).2, (0, (65280, ())))) _ = _
      rw [within_s]
      simp (disch := omega) only [joinF_eq, bindO_some, s_wr, s_td, s_tm, s_pos, s_neg, cond_true, cond_false, Bool.not_true, Bool.not_false, Bool.true_and, Bool.and_true, Bool.false_and, Bool.and_false, bne_self_eq_false, decide_true, decide_false, Int.toNat_natCast]
      by_cases g2 : 0 ≤ (cP ps i).2 ∧ (cP ps i).2 ≤ 65280
      · rw [decide_eq_true g2]
        simp (disch := omega) only [joinF_eq, bindO_some, s_wr, s_td, s_tm, s_pos, s_neg, cond_true, cond_false, Bool.not_true, Bool.not_false, Bool.true_and, Bool.and_true, Bool.false_and, Bool.and_false, bne_self_eq_false, decide_true, decide_false, Int.toNat_natCast, R_CurveErr_j2]
        show (bif decide ((cP ps i).1 ≤ x) then _ else R_CurveErr_j3 fu _ (cP ps i) j (decide ((cP ps i).2 < y))) = _
        have o : ptE ps i = if (cP ps i).1 ≤ x ∨ (cP ps i).2 < y then 18 else 0 := by
          unfold ptE; rw [if_pos ⟨g1, g2⟩]
          by_cases z : 0 < i
          · obtain ⟨q1, q2⟩ := k3 (by omega)
            rw [q1, q2]
            by_cases w : (cP ps i).1 ≤ (cP ps (i - 1)).1 ∨ (cP ps i).2 < (cP ps (i - 1)).2
            · rw [if_pos ⟨z, w⟩, if_pos w]
            · rw [if_neg (fun q => w q.2), if_neg w]
          · obtain ⟨q1, q2⟩ := k2 (by omega)
            rw [if_neg (fun q => z q.1), if_neg (by omega)]
        by_cases g5 : (cP ps i).1 ≤ x
        · rw [if_pos (.inl g5)] at o
          rw [o]; simp (disch := omega) only [joinF_eq, bindO_some, s_wr, s_td, s_tm, s_pos, s_neg, cond_true, cond_false, Bool.not_true, Bool.not_false, Bool.true_and, Bool.and_true, Bool.false_and, Bool.and_false, bne_self_eq_false, decide_true, decide_false, Int.toNat_natCast, R_CurveErr_j3]; rfl
        by_cases g6 : (cP ps i).2 < y
        · rw [if_pos (.inr g6)] at o
          rw [o]; simp (disch := omega) only [joinF_eq, bindO_some, s_wr, s_td, s_tm, s_pos, s_neg, cond_true, cond_false, Bool.not_true, Bool.not_false, Bool.true_and, Bool.and_true, Bool.false_and, Bool.and_false, bne_self_eq_false, decide_true, decide_false, Int.toNat_natCast, R_CurveErr_j3]; rfl
        · rw [if_neg (by omega)] at o
          rw [o]; simp (disch := omega) only [joinF_eq, bindO_some, s_wr, s_td, s_tm, s_pos, s_neg, cond_true, cond_false, Bool.not_true, Bool.not_false, Bool.true_and, Bool.and_true, Bool.false_and, Bool.and_false, bne_self_eq_false, decide_true, decide_false, Int.toNat_natCast, R_CurveErr_j3]; exact ih'
      · rw [t3 (fun q => g2 q.2), decide_eq_false g2]; rfl
    · rw [t3 (fun q => g1 q.1), decide_eq_false g1]; rfl
  · have e : i = ps.length := by omega
    subst e
    obtain ⟨q1, q2⟩ := k3 (by omega)
    simp (disch := omega) only [joinF_eq, bindO_some, s_wr, s_td, s_tm, s_pos, s_neg, cond_true, cond_false, Bool.not_true, Bool.not_false, Bool.true_and, Bool.and_true, Bool.false_and, Bool.and_false, bne_self_eq_false, decide_true, decide_false, Int.toNat_natCast]
    rw [Nat.sub_self]
    show (bif decide ((cP ps 0).1 ≠ 0) then _ else R_CurveErr_j4 fu (decide (x ≠ 65280))) = some (if (cP ps 0).1 = 0 ∧ (cP ps (ps.length - 1)).1 = 65280 then 0 else 4, ())
    rw [q1]
    by_cases g1 : (cP ps 0).1 = 0
    · by_cases g2 : (cP ps (ps.length - 1)).1 = 65280
      · rw [if_pos ⟨g1, g2⟩]; simp (disch := omega) only [joinF_eq, bindO_some, s_wr, s_td, s_tm, s_pos, s_neg, cond_true, cond_false, Bool.not_true, Bool.not_false, Bool.true_and, Bool.and_true, Bool.false_and, Bool.and_false, bne_self_eq_false, decide_true, decide_false, Int.toNat_natCast, R_CurveErr_j4]
      · rw [if_neg (by omega)]; simp (disch := omega) only [joinF_eq, bindO_some, s_wr, s_td, s_tm, s_pos, s_neg, cond_true, cond_false, Bool.not_true, Bool.not_false, Bool.true_and, Bool.and_true, Bool.false_and, Bool.and_false, bne_self_eq_false, decide_true, decide_false, Int.toNat_natCast, R_CurveErr_j4]
    · rw [if_neg (by omega)]; simp (disch := omega) only [joinF_eq, bindO_some, s_wr, s_td, s_tm, s_pos, s_neg, cond_true, cond_false, Bool.not_true, Bool.not_false, Bool.true_and, Bool.and_true, Bool.false_and, Bool.and_false, bne_self_eq_false, decide_true, decide_false, Int.toNat_natCast, R_CurveErr_j4]
section
variable (ok : CurveOk ps) {x : Int} (h0 : 0 ≤ x) (h1 : x ≤ 65280)
include ok h0 h1
theorem seg_bd {i k : Nat} (hik : i < k) (hk : k < ps.length) : (0 ≤ (cP ps i).1 ∧ (cP ps i).1 < (cP ps k).1 ∧ (cP ps k).1 ≤ 65280) ∧ 0 ≤ (cP ps i).2 ∧ (cP ps i).2 ≤ (cP ps k).2 ∧ (cP ps k).2 ≤ 65280 := by
  have a1 := cP_get (ps := ps) (i := i) (by omega)
  have a2 := cP_get (ps := ps) (i := k) hk
  have b1 := ok.bd i _ _ a1
  have b2 := ok.bd k _ _ a2
  have b3 := ok.le (i := i) (j := k) (by omega) a1 a2
  omega
theorem curRaw_r : curve_Raw_r fu (ps, (x, ())) = some (curveAt ps x, ()) := by
  have hl := ok.two
  have hm := ok.most
  unfold curve_Raw_r
  simp (disch := omega) only [joinF_eq, bindO_some, s_wr, s_td, s_tm, s_pos, s_neg, cond_true, cond_false, Bool.not_true, Bool.not_false, Bool.true_and, Bool.and_true, Bool.false_and, Bool.and_false, bne_self_eq_false, decide_true, decide_false, Int.toNat_natCast]
  refine postLoop (f := curve_Raw_l1 fu (ps, (x, ()))) (fun s : Int × Int => (s.1 - s.2).toNat) (fun s => ∃ h l : Nat, s = ((h : Int), (l : Int)) ∧ l < h ∧ h < ps.length ∧ (cP ps l).1 ≤ x ∧ (x < (cP ps h).1 ∨ h = ps.length - 1)) (fun r => r = some (curveAt ps x, ())) ?_ fu ((ps.length : Int) - 1, 0)
    ⟨ps.length - 1, 0, by rw [show ((ps.length - 1 : Nat) : Int) = (ps.length : Int) - 1 by omega]; rfl, by omega, by omega, by rw [ok.first _ _ (cP_get (by omega))]; exact h0, .inr rfl⟩ (by simp only; omega)
  rintro j _ ⟨h, l, rfl, k1, k2, k3, k4⟩
  unfold curve_Raw_l1
  by_cases c : 1 < (h : Int) - l
  · refine .inl ?_
    simp (disch := omega) only [joinF_eq, bindO_some, s_wr, s_td, s_tm, s_pos, s_neg, cond_true, cond_false, Bool.not_true, Bool.not_false, Bool.true_and, Bool.and_true, Bool.false_and, Bool.and_false, bne_self_eq_false, decide_true, decide_false, Int.toNat_natCast]
    obtain ⟨m, hm2⟩ : ∃ m : Nat, m = (l + h) / 2 := ⟨_, rfl⟩
    have e : ((l : Int) + h) / 2 = (m : Int) := by omega
    simp (disch := omega) only [joinF_eq, bindO_some, s_wr, s_td, s_tm, s_pos, s_neg, cond_true, cond_false, Bool.not_true, Bool.not_false, Bool.true_and, Bool.and_true, Bool.false_and, Bool.and_false, bne_self_eq_false, decide_true, decide_false, Int.toNat_natCast, e]
    show ∃ x', _ ∧ _ ∧ (bif decide ((cP ps m).1 ≤ x) then _ else _) = _
    by_cases g : (cP ps m).1 ≤ x
    · simp (disch := omega) only [joinF_eq, bindO_some, s_wr, s_td, s_tm, s_pos, s_neg, cond_true, cond_false, Bool.not_true, Bool.not_false, Bool.true_and, Bool.and_true, Bool.false_and, Bool.and_false, bne_self_eq_false, decide_true, decide_false, Int.toNat_natCast]
      exact ⟨(h, m), ⟨h, m, rfl, by omega, k2, g, k4⟩, by simp only; omega, rfl⟩
    · simp (disch := omega) only [joinF_eq, bindO_some, s_wr, s_td, s_tm, s_pos, s_neg, cond_true, cond_false, Bool.not_true, Bool.not_false, Bool.true_and, Bool.and_true, Bool.false_and, Bool.and_false, bne_self_eq_false, decide_true, decide_false, Int.toNat_natCast]
      exact ⟨(m, l), ⟨m, l, rfl, by omega, by omega, k3, .inl (by omega)⟩, by simp only; omega, rfl⟩
  · refine .inr ?_
    obtain rfl : h = l + 1 := by omega
    obtain ⟨b1, b2⟩ := seg_bd hf ok h0 h1 (i := l) (k := l + 1) (by omega) k2
    have a1 := cP_get (ps := ps) (i := l) (by omega)
    have a2 := cP_get (ps := ps) (i := l + 1) k2
    have hv := curveAt_found ok a1 a2 k3 (by omega) h1
    rw [hv, segV_eq (by omega)]
    simp (disch := omega) only [joinF_eq, bindO_some, s_wr, s_td, s_tm, s_pos, s_neg, cond_true, cond_false, Bool.not_true, Bool.not_false, Bool.true_and, Bool.and_true, Bool.false_and, Bool.and_false, bne_self_eq_false, decide_true, decide_false, Int.toNat_natCast]
    show bindO (curve_Nearest_r fu (IntKind.i64.wrap (IntKind.i64.wrap ((cP ps (l + 1)).2 - (cP ps l).2) * IntKind.i64.wrap (x - (cP ps l).1)), (IntKind.i64.wrap ((cP ps (l + 1)).1 - (cP ps l).1), ()))) _ = _
    have hx : x ≤ (cP ps (l + 1)).1 := by
      rcases k4 with k4 | k4
      · omega
      · have := ok.last _ _ (by rw [← k4]; exact a2); omega
    have m1 : 0 ≤ ((cP ps (l + 1)).2 - (cP ps l).2) * (x - (cP ps l).1) := Int.mul_nonneg (by omega) (by omega)
    have m2 : ((cP ps (l + 1)).2 - (cP ps l).2) * (x - (cP ps l).1) ≤ 65280 * 65280 := Int.mul_le_mul (by omega) (by omega) (by omega) (by omega)
    have sb := segV_bd (x := x) (a := (cP ps l).1) (b := (cP ps l).2) (c := (cP ps (l + 1)).1) (d := (cP ps (l + 1)).2) (by omega) k3 hx (by omega) (by omega) (by omega)
    rw [segV_eq (by omega)] at sb
    generalize hpr : ((cP ps (l + 1)).2 - (cP ps l).2) * (x - (cP ps l).1) = pr at *
    simp (disch := omega) only [joinF_eq, bindO_some, s_wr, s_td, s_tm, s_pos, s_neg, cond_true, cond_false, Bool.not_true, Bool.not_false, Bool.true_and, Bool.and_true, Bool.false_and, Bool.and_false, bne_self_eq_false, decide_true, decide_false, Int.toNat_natCast, hpr]
    rw [nearest_s fu (by omega) (by omega) (by omega) (by omega)]
    simp (disch := omega) only [joinF_eq, bindO_some, s_wr, s_td, s_tm, s_pos, s_neg, cond_true, cond_false, Bool.not_true, Bool.not_false, Bool.true_and, Bool.and_true, Bool.false_and, Bool.and_false, bne_self_eq_false, decide_true, decide_false, Int.toNat_natCast]
    show some (IntKind.i64.wrap ((cP ps l).2 + _), ()) = _
    simp (disch := omega) only [joinF_eq, bindO_some, s_wr, s_td, s_tm, s_pos, s_neg, cond_true, cond_false, Bool.not_true, Bool.not_false, Bool.true_and, Bool.and_true, Bool.false_and, Bool.and_false, bne_self_eq_false, decide_true, decide_false, Int.toNat_natCast]
theorem curAt_r : R_CurveAt_r fu (ps, (x, ())) = some (curveAt ps x, ()) := by
  have hl := ok.two
  have hm := ok.most
  unfold R_CurveAt_r
  refine postLoop (f := R_CurveAt_l1 fu (ps, (x, ()))) (fun s : Int => ((ps.length : Int) - s).toNat) (fun s => ∃ i : Nat, s = (i : Int) + 1 ∧ i + 1 < ps.length ∧ (i = 0 ∨ (cP ps i).1 < x)) (fun r => r = some (curveAt ps x, ())) ?_ fu 1 ⟨0, rfl, by omega, .inl rfl⟩ (by omega)
  rintro j _ ⟨i, rfl, k1, k2⟩
  obtain ⟨b1, b2⟩ := seg_bd hf ok h0 h1 (i := i) (k := i + 1) (by omega) k1
  have a1 := cP_get (ps := ps) (i := i) (by omega)
  have a2 := cP_get (ps := ps) (i := i + 1) k1
  unfold R_CurveAt_l1
  simp (disch := omega) only [joinF_eq, bindO_some, s_wr, s_td, s_tm, s_pos, s_neg, cond_true, cond_false, Bool.not_true, Bool.not_false, Bool.true_and, Bool.and_true, Bool.false_and, Bool.and_false, bne_self_eq_false, decide_true, decide_false, Int.toNat_natCast]
  rw [show ((i : Int) + 1 - 1).toNat = i by omega, show ((i : Int) + 1).toNat = i + 1 by omega]
  show (∃ x', _ ∧ _ ∧ (bif decide (x ≤ (cP ps (i + 1)).1) then _ else _) = _) ∨ (bif decide (x ≤ (cP ps (i + 1)).1) then _ else _) = _
  by_cases g : x ≤ (cP ps (i + 1)).1
  · refine .inr ?_
    have hv := curveAt_seg ok a1 a2 k2 g
    rw [hv]
    unfold segV
    have hx : (cP ps i).1 ≤ x := by
      rcases k2 with k2 | k2
      · subst k2; have := ok.first _ _ a1; omega
      · omega
    simp (disch := omega) only [joinF_eq, bindO_some, s_wr, s_td, s_tm, s_pos, s_neg, cond_true, cond_false, Bool.not_true, Bool.not_false, Bool.true_and, Bool.and_true, Bool.false_and, Bool.and_false, bne_self_eq_false, decide_true, decide_false, Int.toNat_natCast]
    show bindO (R_Round_r fu (IntKind.i64.wrap (IntKind.i64.wrap ((cP ps i).2 * IntKind.i64.wrap ((cP ps (i + 1)).1 - x)) + IntKind.i64.wrap ((cP ps (i + 1)).2 * IntKind.i64.wrap (x - (cP ps i).1))), (IntKind.i64.wrap ((cP ps (i + 1)).1 - (cP ps i).1), ()))) _ = _
    have m1 : 0 ≤ (cP ps i).2 * ((cP ps (i + 1)).1 - x) := Int.mul_nonneg (by omega) (by omega)
    have m2 : (cP ps i).2 * ((cP ps (i + 1)).1 - x) ≤ 65280 * 65280 := Int.mul_le_mul (by omega) (by omega) (by omega) (by omega)
    have m3 : 0 ≤ (cP ps (i + 1)).2 * (x - (cP ps i).1) := Int.mul_nonneg (by omega) (by omega)
    have m4 : (cP ps (i + 1)).2 * (x - (cP ps i).1) ≤ 65280 * 65280 := Int.mul_le_mul (by omega) (by omega) (by omega) (by omega)
    generalize hp : (cP ps i).2 * ((cP ps (i + 1)).1 - x) = p at *
    generalize hq : (cP ps (i + 1)).2 * (x - (cP ps i).1) = q at *
    simp (disch := omega) only [joinF_eq, bindO_some, s_wr, s_td, s_tm, s_pos, s_neg, cond_true, cond_false, Bool.not_true, Bool.not_false, Bool.true_and, Bool.and_true, Bool.false_and, Bool.and_false, bne_self_eq_false, decide_true, decide_false, Int.toNat_natCast, hp, hq]
    rw [round_s fu (by omega) (by omega) (by omega) (by omega)]
    simp (disch := omega) only [joinF_eq, bindO_some, s_wr, s_td, s_tm, s_pos, s_neg, cond_true, cond_false, Bool.not_true, Bool.not_false, Bool.true_and, Bool.and_true, Bool.false_and, Bool.and_false, bne_self_eq_false, decide_true, decide_false, Int.toNat_natCast]
  · refine .inl ⟨(i : Int) + 1 + 1, ⟨i + 1, by omega, ?_, .inr (by omega)⟩, by omega, ?_⟩
    · rcases Nat.lt_or_ge (i + 1 + 1) ps.length with q | q
      · exact q
      · have := ok.last _ _ (by rw [show ps.length - 1 = i + 1 by omega]; exact a2); omega
    · simp (disch := omega) only [joinF_eq, bindO_some, s_wr, s_td, s_tm, s_pos, s_neg, cond_true, cond_false, Bool.not_true, Bool.not_false, Bool.true_and, Bool.and_true, Bool.false_and, Bool.and_false, bne_self_eq_false, decide_true, decide_false, Int.toNat_natCast]
end
end
end Go.Proofs.Ytdfocbeejgcglaa
/- Spot inks: what the checks, Quick and SpotProcess compute. -/
namespace Go.Proofs.Ytdfocbeejgcglaa
open Go Go.RowKit
set_option linter.unusedSimpArgs false
set_option linter.unusedSectionVars false
set_option linter.unusedVariables false
/-! ### names -/
def lowC (c : Int) : Prop := 97 ≤ c ∧ c ≤ 122
def restC (c : Int) : Prop := lowC c ∨ (48 ≤ c ∧ c ≤ 57) ∨ c = 45
instance (c : Int) : Decidable (lowC c) := by unfold lowC; infer_instance
instance (c : Int) : Decidable (restC c) := by unfold restC; infer_instance
def chr (s : List UInt8) (i : Nat) : Int := (s.getD i 0).toNat
def nameE (s : List UInt8) (i : Nat) : Int := if lowC (chr s i) ∨ (0 < i ∧ restC (chr s i)) then 0 else 1
def nameB (s : List UInt8) : Bool := decide ((1 ≤ s.length ∧ s.length ≤ 16) ∧ firstE (nameE s) s.length 0 = 0)
section
variable {fu : Nat} (hf : 18446744073709551616 ≤ fu)
include hf
theorem name_r {s : List UInt8} : R_Name_r fu (s, ()) = some (nameB s, ()) := by
  unfold R_Name_r R_Name_j1 nameB
  by_cases c1 : s.length < 1
  · rw [decide_eq_false (p := _ ∧ _) (by omega)]; simp (disch := omega) only [joinF_eq, bindO_some, s_wr, s_td, s_tm, s_pos, s_neg, cond_true, cond_false, Bool.not_true, Bool.not_false, Bool.true_and, Bool.and_true, Bool.false_and, Bool.and_false, bne_self_eq_false, decide_true, decide_false, Int.toNat_natCast]
  by_cases c2 : 16 < s.length
  · rw [decide_eq_false (p := _ ∧ _) (by omega)]; simp (disch := omega) only [joinF_eq, bindO_some, s_wr, s_td, s_tm, s_pos, s_neg, cond_true, cond_false, Bool.not_true, Bool.not_false, Bool.true_and, Bool.and_true, Bool.false_and, Bool.and_false, bne_self_eq_false, decide_true, decide_false, Int.toNat_natCast]
  simp (disch := omega) only [joinF_eq, bindO_some, s_wr, s_td, s_tm, s_pos, s_neg, cond_true, cond_false, Bool.not_true, Bool.not_false, Bool.true_and, Bool.and_true, Bool.false_and, Bool.and_false, bne_self_eq_false, decide_true, decide_false, Int.toNat_natCast]
  rw [errLoop (n := s.length) (E := nameE s) (out := fun _ => some (false, ())) (fin := some (true, ())) (by omega)]
  · by_cases e : firstE (nameE s) s.length 0 = 0
    · rw [if_pos e, decide_eq_true ⟨by omega, e⟩]
    · rw [if_neg e, decide_eq_false (fun h => e h.2)]
  · intro j i hi
    unfold R_Name_l2
    simp (disch := omega) only [joinF_eq, bindO_some, s_wr, s_td, s_tm, s_pos, s_neg, cond_true, cond_false, Bool.not_true, Bool.not_false, Bool.true_and, Bool.and_true, Bool.false_and, Bool.and_false, bne_self_eq_false, decide_true, decide_false, Int.toNat_natCast]
    show (bif decide (97 ≤ chr s i) then R_Name_j3 fu _ _ j (decide (chr s i ≤ 122)) else _) = _
    have t0 : lowC (chr s i) ∨ (0 < i ∧ restC (chr s i)) → nameE s i = 0 := fun h => by unfold nameE; rw [if_pos h]
    have t1 : ¬ (lowC (chr s i) ∨ (0 < i ∧ restC (chr s i))) → nameE s i = 1 := fun h => by unfold nameE; rw [if_neg h]
    unfold restC lowC at t0 t1
    have k : ∀ b, (b = true ↔ 97 ≤ chr s i ∧ chr s i ≤ 122) → R_Name_j3 fu (s, ()) i j b = if nameE s i = 0 then j ((i : Int) + 1) else some (false, ()) := by
      intro b hb
      unfold R_Name_j3
      cases b
      · have hb : ¬ (97 ≤ chr s i ∧ chr s i ≤ 122) := fun h => by simpa using hb.2 h
        simp (disch := omega) only [joinF_eq, bindO_some, s_wr, s_td, s_tm, s_pos, s_neg, cond_true, cond_false, Bool.not_true, Bool.not_false, Bool.true_and, Bool.and_true, Bool.false_and, Bool.and_false, bne_self_eq_false, decide_true, decide_false, Int.toNat_natCast]
        by_cases z : i = 0
        · rw [t1 (by omega)]; simp (disch := omega) only [joinF_eq, bindO_some, s_wr, s_td, s_tm, s_pos, s_neg, cond_true, cond_false, Bool.not_true, Bool.not_false, Bool.true_and, Bool.and_true, Bool.false_and, Bool.and_false, bne_self_eq_false, decide_true, decide_false, Int.toNat_natCast, R_Name_j4]; rfl
        simp (disch := omega) only [joinF_eq, bindO_some, s_wr, s_td, s_tm, s_pos, s_neg, cond_true, cond_false, Bool.not_true, Bool.not_false, Bool.true_and, Bool.and_true, Bool.false_and, Bool.and_false, bne_self_eq_false, decide_true, decide_false, Int.toNat_natCast]
        show (bif decide (chr s i ≠ 45) then (bif decide (chr s i < 48) then _ else R_Name_j4 fu _ j (decide (57 < chr s i))) else _) = _
        by_cases g1 : chr s i = 45
        · rw [t0 (by omega)]; simp (disch := omega) only [joinF_eq, bindO_some, s_wr, s_td, s_tm, s_pos, s_neg, cond_true, cond_false, Bool.not_true, Bool.not_false, Bool.true_and, Bool.and_true, Bool.false_and, Bool.and_false, bne_self_eq_false, decide_true, decide_false, Int.toNat_natCast, R_Name_j4]; rfl
        by_cases g2 : chr s i < 48
        · rw [t1 (by omega)]; simp (disch := omega) only [joinF_eq, bindO_some, s_wr, s_td, s_tm, s_pos, s_neg, cond_true, cond_false, Bool.not_true, Bool.not_false, Bool.true_and, Bool.and_true, Bool.false_and, Bool.and_false, bne_self_eq_false, decide_true, decide_false, Int.toNat_natCast, R_Name_j4]; rfl
        by_cases g3 : 57 < chr s i
        · rw [t1 (by omega)]; simp (disch := omega) only [joinF_eq, bindO_some, s_wr, s_td, s_tm, s_pos, s_neg, cond_true, cond_false, Bool.not_true, Bool.not_false, Bool.true_and, Bool.and_true, Bool.false_and, Bool.and_false, bne_self_eq_false, decide_true, decide_false, Int.toNat_natCast, R_Name_j4]; rfl
        · rw [t0 (by omega)]; simp (disch := omega) only [joinF_eq, bindO_some, s_wr, s_td, s_tm, s_pos, s_neg, cond_true, cond_false, Bool.not_true, Bool.not_false, Bool.true_and, Bool.and_true, Bool.false_and, Bool.and_false, bne_self_eq_false, decide_true, decide_false, Int.toNat_natCast, R_Name_j4]; rfl
      · have hb := hb.1 rfl
        rw [t0 (by omega)]; simp (disch := omega) only [joinF_eq, bindO_some, s_wr, s_td, s_tm, s_pos, s_neg, cond_true, cond_false, Bool.not_true, Bool.not_false, Bool.true_and, Bool.and_true, Bool.false_and, Bool.and_false, bne_self_eq_false, decide_true, decide_false, Int.toNat_natCast, R_Name_j4]; rfl
    by_cases g1 : 97 ≤ chr s i
    · simp (disch := omega) only [joinF_eq, bindO_some, s_wr, s_td, s_tm, s_pos, s_neg, cond_true, cond_false, Bool.not_true, Bool.not_false, Bool.true_and, Bool.and_true, Bool.false_and, Bool.and_false, bne_self_eq_false, decide_true, decide_false, Int.toNat_natCast]
      refine k _ ?_
      rw [decide_eq_true_eq]; omega
    · simp (disch := omega) only [joinF_eq, bindO_some, s_wr, s_td, s_tm, s_pos, s_neg, cond_true, cond_false, Bool.not_true, Bool.not_false, Bool.true_and, Bool.and_true, Bool.false_and, Bool.and_false, bne_self_eq_false, decide_true, decide_false, Int.toNat_natCast]
      refine k _ ?_
      simp; omega
  · intro j
    unfold R_Name_l2
    simp (disch := omega) only [joinF_eq, bindO_some, s_wr, s_td, s_tm, s_pos, s_neg, cond_true, cond_false, Bool.not_true, Bool.not_false, Bool.true_and, Bool.and_true, Bool.false_and, Bool.and_false, bne_self_eq_false, decide_true, decide_false, Int.toNat_natCast]
theorem isName_r {s : List UInt8} : profile_IsName_r fu (s, ()) = some (nameB s, ()) := by
  unfold profile_IsName_r profile_IsName_j1 nameB
  by_cases c1 : s.length < 1
  · rw [decide_eq_false (p := _ ∧ _) (by omega)]; simp (disch := omega) only [joinF_eq, bindO_some, s_wr, s_td, s_tm, s_pos, s_neg, cond_true, cond_false, Bool.not_true, Bool.not_false, Bool.true_and, Bool.and_true, Bool.false_and, Bool.and_false, bne_self_eq_false, decide_true, decide_false, Int.toNat_natCast]
  by_cases c2 : 16 < s.length
  · rw [decide_eq_false (p := _ ∧ _) (by omega)]; simp (disch := omega) only [joinF_eq, bindO_some, s_wr, s_td, s_tm, s_pos, s_neg, cond_true, cond_false, Bool.not_true, Bool.not_false, Bool.true_and, Bool.and_true, Bool.false_and, Bool.and_false, bne_self_eq_false, decide_true, decide_false, Int.toNat_natCast]
  simp (disch := omega) only [joinF_eq, bindO_some, s_wr, s_td, s_tm, s_pos, s_neg, cond_true, cond_false, Bool.not_true, Bool.not_false, Bool.true_and, Bool.and_true, Bool.false_and, Bool.and_false, bne_self_eq_false, decide_true, decide_false, Int.toNat_natCast]
  show (bif decide (chr s 0 < 97) then _ else (bif decide (122 < chr s 0) then _ else _)) = _
  have hz : ¬ (97 ≤ chr s 0 ∧ chr s 0 ≤ 122) → firstE (nameE s) s.length 0 ≠ 0 := by
    intro h e
    have := firstE_ok _ 0 e 0 (by omega) (by omega)
    unfold nameE lowC at this
    rw [if_neg (by omega)] at this
    omega
  by_cases c3 : chr s 0 < 97
  · rw [decide_eq_false (p := _ ∧ _) (fun h => hz (by omega) h.2)]; simp (disch := omega) only [joinF_eq, bindO_some, s_wr, s_td, s_tm, s_pos, s_neg, cond_true, cond_false, Bool.not_true, Bool.not_false, Bool.true_and, Bool.and_true, Bool.false_and, Bool.and_false, bne_self_eq_false, decide_true, decide_false, Int.toNat_natCast]
  by_cases c4 : 122 < chr s 0
  · rw [decide_eq_false (p := _ ∧ _) (fun h => hz (by omega) h.2)]; simp (disch := omega) only [joinF_eq, bindO_some, s_wr, s_td, s_tm, s_pos, s_neg, cond_true, cond_false, Bool.not_true, Bool.not_false, Bool.true_and, Bool.and_true, Bool.false_and, Bool.and_false, bne_self_eq_false, decide_true, decide_false, Int.toNat_natCast]
  simp (disch := omega) only [joinF_eq, bindO_some, s_wr, s_td, s_tm, s_pos, s_neg, cond_true, cond_false, Bool.not_true, Bool.not_false, Bool.true_and, Bool.and_true, Bool.false_and, Bool.and_false, bne_self_eq_false, decide_true, decide_false, Int.toNat_natCast]
  rw [errLoop (n := s.length) (E := nameE s) (out := fun _ => some (false, ())) (fin := some (true, ())) (by omega)]
  · by_cases e : firstE (nameE s) s.length 0 = 0
    · rw [if_pos e, decide_eq_true ⟨by omega, e⟩]
    · rw [if_neg e, decide_eq_false (fun h => e h.2)]
  · intro j i hi
    unfold profile_IsName_l2
    simp (disch := omega) only [joinF_eq, bindO_some, s_wr, s_td, s_tm, s_pos, s_neg, cond_true, cond_false, Bool.not_true, Bool.not_false, Bool.true_and, Bool.and_true, Bool.false_and, Bool.and_false, bne_self_eq_false, decide_true, decide_false, Int.toNat_natCast]
    have t0 : lowC (chr s i) ∨ (0 < i ∧ restC (chr s i)) → nameE s i = 0 := fun h => by unfold nameE; rw [if_pos h]
    have t1 : ¬ (lowC (chr s i) ∨ (0 < i ∧ restC (chr s i))) → nameE s i = 1 := fun h => by unfold nameE; rw [if_neg h]
    unfold restC lowC at t0 t1
    have z : i = 0 → 97 ≤ chr s i ∧ chr s i ≤ 122 := by rintro rfl; omega
    show (bif decide (chr s i < 97) then (bif decide (chr s i < 48) then profile_IsName_j3 fu _ j (decide (chr s i ≠ 45)) else (bif decide (57 < chr s i) then profile_IsName_j3 fu _ j (decide (chr s i ≠ 45)) else profile_IsName_j3 fu _ j false))
      else (bif decide (122 < chr s i) then (bif decide (chr s i < 48) then profile_IsName_j3 fu _ j (decide (chr s i ≠ 45)) else (bif decide (57 < chr s i) then profile_IsName_j3 fu _ j (decide (chr s i ≠ 45)) else profile_IsName_j3 fu _ j false)) else profile_IsName_j3 fu _ j false)) = _
    by_cases g1 : chr s i < 97
    · by_cases g2 : chr s i < 48
      · by_cases g3 : chr s i = 45
        · rw [t0 (by omega)]; simp (disch := omega) only [joinF_eq, bindO_some, s_wr, s_td, s_tm, s_pos, s_neg, cond_true, cond_false, Bool.not_true, Bool.not_false, Bool.true_and, Bool.and_true, Bool.false_and, Bool.and_false, bne_self_eq_false, decide_true, decide_false, Int.toNat_natCast, profile_IsName_j3]; rfl
        · rw [t1 (by omega)]; simp (disch := omega) only [joinF_eq, bindO_some, s_wr, s_td, s_tm, s_pos, s_neg, cond_true, cond_false, Bool.not_true, Bool.not_false, Bool.true_and, Bool.and_true, Bool.false_and, Bool.and_false, bne_self_eq_false, decide_true, decide_false, Int.toNat_natCast, profile_IsName_j3]; rfl
      · by_cases g3 : 57 < chr s i
        · rw [t1 (by omega)]; simp (disch := omega) only [joinF_eq, bindO_some, s_wr, s_td, s_tm, s_pos, s_neg, cond_true, cond_false, Bool.not_true, Bool.not_false, Bool.true_and, Bool.and_true, Bool.false_and, Bool.and_false, bne_self_eq_false, decide_true, decide_false, Int.toNat_natCast, profile_IsName_j3]; rfl
        · rw [t0 (by omega)]; simp (disch := omega) only [joinF_eq, bindO_some, s_wr, s_td, s_tm, s_pos, s_neg, cond_true, cond_false, Bool.not_true, Bool.not_false, Bool.true_and, Bool.and_true, Bool.false_and, Bool.and_false, bne_self_eq_false, decide_true, decide_false, Int.toNat_natCast, profile_IsName_j3]; rfl
    · by_cases g2 : 122 < chr s i
      · rw [t1 (by omega)]; simp (disch := omega) only [joinF_eq, bindO_some, s_wr, s_td, s_tm, s_pos, s_neg, cond_true, cond_false, Bool.not_true, Bool.not_false, Bool.true_and, Bool.and_true, Bool.false_and, Bool.and_false, bne_self_eq_false, decide_true, decide_false, Int.toNat_natCast, profile_IsName_j3]; rfl
      · rw [t0 (by omega)]; simp (disch := omega) only [joinF_eq, bindO_some, s_wr, s_td, s_tm, s_pos, s_neg, cond_true, cond_false, Bool.not_true, Bool.not_false, Bool.true_and, Bool.and_true, Bool.false_and, Bool.and_false, bne_self_eq_false, decide_true, decide_false, Int.toNat_natCast, profile_IsName_j3]; rfl
  · intro j
    unfold profile_IsName_l2
    simp (disch := omega) only [joinF_eq, bindO_some, s_wr, s_td, s_tm, s_pos, s_neg, cond_true, cond_false, Bool.not_true, Bool.not_false, Bool.true_and, Bool.and_true, Bool.false_and, Bool.and_false, bne_self_eq_false, decide_true, decide_false, Int.toNat_natCast]
/-! ### tones -/
end
def tnE (l : List Int) (m : Int) (i : Nat) : Int := if 0 ≤ l.getD i 0 ∧ l.getD i 0 ≤ m then 0 else 3
def tonesE (l : List Int) (n m : Int) : Int := if (l.length : Int) = n then firstE (tnE l m) l.length 0 else 4
section
variable {fu : Nat} (hf : 18446744073709551616 ≤ fu) {l : List Int} (hl : (l.length : Int) ≤ 9223372036854775807) {n : Int}
include hf hl
theorem tonesErr_r {m : Int} : R_TonesErr_r fu (l, (n, (m, ()))) = some (tonesE l n m, ()) := by
  unfold R_TonesErr_r tonesE
  by_cases c : (l.length : Int) = n
  · rw [if_pos c]
    simp (disch := omega) only [joinF_eq, bindO_some, s_wr, s_td, s_tm, s_pos, s_neg, cond_true, cond_false, Bool.not_true, Bool.not_false, Bool.true_and, Bool.and_true, Bool.false_and, Bool.and_false, bne_self_eq_false, decide_true, decide_false, Int.toNat_natCast]
    rw [errLoop (n := l.length) (E := tnE l m) (out := fun e => some (e, ())) (fin := some (0, ())) (by omega)]
    · split
      · rename_i e; rw [e]
      · rfl
    · intro j i hi
      unfold R_TonesErr_l1 tnE
      simp (disch := omega) only [joinF_eq, bindO_some, s_wr, s_td, s_tm, s_pos, s_neg, cond_true, cond_false, Bool.not_true, Bool.not_false, Bool.true_and, Bool.and_true, Bool.false_and, Bool.and_false, bne_self_eq_false, decide_true, decide_false, Int.toNat_natCast, within_s]
      by_cases g : 0 ≤ l.getD i 0 ∧ l.getD i 0 ≤ m
      · rw [if_pos g, decide_eq_true g]; simp (disch := omega) only [joinF_eq, bindO_some, s_wr, s_td, s_tm, s_pos, s_neg, cond_true, cond_false, Bool.not_true, Bool.not_false, Bool.true_and, Bool.and_true, Bool.false_and, Bool.and_false, bne_self_eq_false, decide_true, decide_false, Int.toNat_natCast]; rfl
      · rw [if_neg g, decide_eq_false g]; simp (disch := omega) only [joinF_eq, bindO_some, s_wr, s_td, s_tm, s_pos, s_neg, cond_true, cond_false, Bool.not_true, Bool.not_false, Bool.true_and, Bool.and_true, Bool.false_and, Bool.and_false, bne_self_eq_false, decide_true, decide_false, Int.toNat_natCast]; rfl
    · intro j
      unfold R_TonesErr_l1
      simp (disch := omega) only [joinF_eq, bindO_some, s_wr, s_td, s_tm, s_pos, s_neg, cond_true, cond_false, Bool.not_true, Bool.not_false, Bool.true_and, Bool.and_true, Bool.false_and, Bool.and_false, bne_self_eq_false, decide_true, decide_false, Int.toNat_natCast]
  · rw [if_neg c]; simp (disch := omega) only [joinF_eq, bindO_some, s_wr, s_td, s_tm, s_pos, s_neg, cond_true, cond_false, Bool.not_true, Bool.not_false, Bool.true_and, Bool.and_true, Bool.false_and, Bool.and_false, bne_self_eq_false, decide_true, decide_false, Int.toNat_natCast]
theorem tones_r : profile_Tones_r fu (l, (n, ())) = some (tonesE l n 255, ()) := by
  unfold profile_Tones_r tonesE
  by_cases c : (l.length : Int) = n
  · rw [if_pos c]
    simp (disch := omega) only [joinF_eq, bindO_some, s_wr, s_td, s_tm, s_pos, s_neg, cond_true, cond_false, Bool.not_true, Bool.not_false, Bool.true_and, Bool.and_true, Bool.false_and, Bool.and_false, bne_self_eq_false, decide_true, decide_false, Int.toNat_natCast]
    rw [errLoop (n := l.length) (E := tnE l 255) (out := fun e => some (e, ())) (fin := some (0, ())) (by omega)]
    · split
      · rename_i e; rw [e]
      · rfl
    · intro j i hi
      have t3 : ¬ (0 ≤ l.getD i 0 ∧ l.getD i 0 ≤ 255) → tnE l 255 i = 3 := fun h => by unfold tnE; rw [if_neg h]
      have t0 : (0 ≤ l.getD i 0 ∧ l.getD i 0 ≤ 255) → tnE l 255 i = 0 := fun h => by unfold tnE; rw [if_pos h]
      unfold profile_Tones_l1
      simp (disch := omega) only [joinF_eq, bindO_some, s_wr, s_td, s_tm, s_pos, s_neg, cond_true, cond_false, Bool.not_true, Bool.not_false, Bool.true_and, Bool.and_true, Bool.false_and, Bool.and_false, bne_self_eq_false, decide_true, decide_false, Int.toNat_natCast]
      by_cases g : l.getD i 0 < 0
      · rw [t3 (by omega)]; simp (disch := omega) only [joinF_eq, bindO_some, s_wr, s_td, s_tm, s_pos, s_neg, cond_true, cond_false, Bool.not_true, Bool.not_false, Bool.true_and, Bool.and_true, Bool.false_and, Bool.and_false, bne_self_eq_false, decide_true, decide_false, Int.toNat_natCast, profile_Tones_j2]; rfl
      by_cases g2 : 255 < l.getD i 0
      · rw [t3 (by omega)]; simp (disch := omega) only [joinF_eq, bindO_some, s_wr, s_td, s_tm, s_pos, s_neg, cond_true, cond_false, Bool.not_true, Bool.not_false, Bool.true_and, Bool.and_true, Bool.false_and, Bool.and_false, bne_self_eq_false, decide_true, decide_false, Int.toNat_natCast, profile_Tones_j2]; rfl
      · rw [t0 (by omega)]; simp (disch := omega) only [joinF_eq, bindO_some, s_wr, s_td, s_tm, s_pos, s_neg, cond_true, cond_false, Bool.not_true, Bool.not_false, Bool.true_and, Bool.and_true, Bool.false_and, Bool.and_false, bne_self_eq_false, decide_true, decide_false, Int.toNat_natCast, profile_Tones_j2]; rfl
    · intro j
      unfold profile_Tones_l1
      simp (disch := omega) only [joinF_eq, bindO_some, s_wr, s_td, s_tm, s_pos, s_neg, cond_true, cond_false, Bool.not_true, Bool.not_false, Bool.true_and, Bool.and_true, Bool.false_and, Bool.and_false, bne_self_eq_false, decide_true, decide_false, Int.toNat_natCast]
  · rw [if_neg c]; simp (disch := omega) only [joinF_eq, bindO_some, s_wr, s_td, s_tm, s_pos, s_neg, cond_true, cond_false, Bool.not_true, Bool.not_false, Bool.true_and, Bool.and_true, Bool.false_and, Bool.and_false, bne_self_eq_false, decide_true, decide_false, Int.toNat_natCast]
end
theorem tonesE_ok {l : List Int} {n m : Int} (h : tonesE l n m = 0) : (l.length : Int) = n ∧ ∀ i, i < l.length → 0 ≤ l.getD i 0 ∧ l.getD i 0 ≤ m := by
  unfold tonesE at h
  by_cases c : (l.length : Int) = n
  · rw [if_pos c] at h
    refine ⟨c, fun i hi => ?_⟩
    have := firstE_ok _ 0 h i (by omega) (by omega)
    unfold tnE at this
    split at this
    · rename_i g; exact g
    · omega
  · rw [if_neg c] at h; omega
/-! ### a spot ink -/
abbrev LabT := Int × Int × Int
abbrev SpotT := List UInt8 × LabT × LabT × List (Int × Int) × List Int
def spotE (s : SpotT) : Int :=
  if nameB s.1 = true then (if labR s.2.1 = 0 ∧ labR s.2.2.1 = 0 then (if curE s.2.2.2.1 = 0 then (if 8 < s.2.2.2.2.length then 2 else tonesE s.2.2.2.2 s.2.2.2.2.length 255) else curE s.2.2.2.1) else 3) else 6
def wfS (s : SpotT) : Prop := (s.2.2.2.2.length : Int) ≤ 9223372036854775807
section
variable {fu : Nat} (hf : 18446744073709551616 ≤ fu) {s : SpotT} (hs : wfS s)
include hf hs
theorem spotOne_r : spot_one_r fu (s, ()) = some (spotE s, ()) := by
  obtain ⟨nm, p, q, cu, pr⟩ := s
  unfold spot_one_r spotE
  simp (disch := omega) only [joinF_eq, bindO_some, s_wr, s_td, s_tm, s_pos, s_neg, cond_true, cond_false, Bool.not_true, Bool.not_false, Bool.true_and, Bool.and_true, Bool.false_and, Bool.and_false, bne_self_eq_false, decide_true, decide_false, Int.toNat_natCast, isName_r hf, refChk_s, curCheck_r hf, tones_r hf hs]
  cases hn : nameB nm
  · rfl
  simp (disch := omega) only [joinF_eq, bindO_some, s_wr, s_td, s_tm, s_pos, s_neg, cond_true, cond_false, Bool.not_true, Bool.not_false, Bool.true_and, Bool.and_true, Bool.false_and, Bool.and_false, bne_self_eq_false, decide_true, decide_false, Int.toNat_natCast]
  rcases labR_or p with ⟨e1, _⟩ | e1
  · rcases labR_or q with ⟨e2, _⟩ | e2
    · simp (disch := omega) only [joinF_eq, bindO_some, s_wr, s_td, s_tm, s_pos, s_neg, cond_true, cond_false, Bool.not_true, Bool.not_false, Bool.true_and, Bool.and_true, Bool.false_and, Bool.and_false, bne_self_eq_false, decide_true, decide_false, Int.toNat_natCast, e1, e2]
      by_cases c : curE cu = 0
      · rw [if_pos c]
        simp (disch := omega) only [joinF_eq, bindO_some, s_wr, s_td, s_tm, s_pos, s_neg, cond_true, cond_false, Bool.not_true, Bool.not_false, Bool.true_and, Bool.and_true, Bool.false_and, Bool.and_false, bne_self_eq_false, decide_true, decide_false, Int.toNat_natCast]
        by_cases g : 8 < pr.length
        · rw [if_pos g]; simp (disch := omega) only [joinF_eq, bindO_some, s_wr, s_td, s_tm, s_pos, s_neg, cond_true, cond_false, Bool.not_true, Bool.not_false, Bool.true_and, Bool.and_true, Bool.false_and, Bool.and_false, bne_self_eq_false, decide_true, decide_false, Int.toNat_natCast]; rfl
        · rw [if_neg g]; simp (disch := omega) only [joinF_eq, bindO_some, s_wr, s_td, s_tm, s_pos, s_neg, cond_true, cond_false, Bool.not_true, Bool.not_false, Bool.true_and, Bool.and_true, Bool.false_and, Bool.and_false, bne_self_eq_false, decide_true, decide_false, Int.toNat_natCast]; rfl
      · rw [if_neg c]; simp (disch := omega) only [joinF_eq, bindO_some, s_wr, s_td, s_tm, s_pos, s_neg, cond_true, cond_false, Bool.not_true, Bool.not_false, Bool.true_and, Bool.and_true, Bool.false_and, Bool.and_false, bne_self_eq_false, decide_true, decide_false, Int.toNat_natCast]; rfl
    · simp (disch := omega) only [joinF_eq, bindO_some, s_wr, s_td, s_tm, s_pos, s_neg, cond_true, cond_false, Bool.not_true, Bool.not_false, Bool.true_and, Bool.and_true, Bool.false_and, Bool.and_false, bne_self_eq_false, decide_true, decide_false, Int.toNat_natCast, e1, e2]; rfl
  · simp (disch := omega) only [joinF_eq, bindO_some, s_wr, s_td, s_tm, s_pos, s_neg, cond_true, cond_false, Bool.not_true, Bool.not_false, Bool.true_and, Bool.and_true, Bool.false_and, Bool.and_false, bne_self_eq_false, decide_true, decide_false, Int.toNat_natCast, e1]; rfl
theorem spotErr_r : R_SpotErr_r fu (s, ()) = some (spotE s, ()) := by
  obtain ⟨nm, p, q, cu, pr⟩ := s
  unfold R_SpotErr_r R_SpotErr_j1 spotE
  simp (disch := omega) only [joinF_eq, bindO_some, s_wr, s_td, s_tm, s_pos, s_neg, cond_true, cond_false, Bool.not_true, Bool.not_false, Bool.true_and, Bool.and_true, Bool.false_and, Bool.and_false, bne_self_eq_false, decide_true, decide_false, Int.toNat_natCast, name_r hf, labErr_s, curErr_r hf, tonesErr_r hf hs]
  cases hn : nameB nm
  · rfl
  simp (disch := omega) only [joinF_eq, bindO_some, s_wr, s_td, s_tm, s_pos, s_neg, cond_true, cond_false, Bool.not_true, Bool.not_false, Bool.true_and, Bool.and_true, Bool.false_and, Bool.and_false, bne_self_eq_false, decide_true, decide_false, Int.toNat_natCast]
  rcases labR_or p with ⟨e1, _⟩ | e1
  · rcases labR_or q with ⟨e2, _⟩ | e2
    · simp (disch := omega) only [joinF_eq, bindO_some, s_wr, s_td, s_tm, s_pos, s_neg, cond_true, cond_false, Bool.not_true, Bool.not_false, Bool.true_and, Bool.and_true, Bool.false_and, Bool.and_false, bne_self_eq_false, decide_true, decide_false, Int.toNat_natCast, e1, e2]
      by_cases c : curE cu = 0
      · rw [if_pos c]
        simp (disch := omega) only [joinF_eq, bindO_some, s_wr, s_td, s_tm, s_pos, s_neg, cond_true, cond_false, Bool.not_true, Bool.not_false, Bool.true_and, Bool.and_true, Bool.false_and, Bool.and_false, bne_self_eq_false, decide_true, decide_false, Int.toNat_natCast]
        by_cases g : 8 < pr.length
        · rw [if_pos g]; simp (disch := omega) only [joinF_eq, bindO_some, s_wr, s_td, s_tm, s_pos, s_neg, cond_true, cond_false, Bool.not_true, Bool.not_false, Bool.true_and, Bool.and_true, Bool.false_and, Bool.and_false, bne_self_eq_false, decide_true, decide_false, Int.toNat_natCast]; rfl
        · rw [if_neg g]; simp (disch := omega) only [joinF_eq, bindO_some, s_wr, s_td, s_tm, s_pos, s_neg, cond_true, cond_false, Bool.not_true, Bool.not_false, Bool.true_and, Bool.and_true, Bool.false_and, Bool.and_false, bne_self_eq_false, decide_true, decide_false, Int.toNat_natCast]; rfl
      · rw [if_neg c]; simp (disch := omega) only [joinF_eq, bindO_some, s_wr, s_td, s_tm, s_pos, s_neg, cond_true, cond_false, Bool.not_true, Bool.not_false, Bool.true_and, Bool.and_true, Bool.false_and, Bool.and_false, bne_self_eq_false, decide_true, decide_false, Int.toNat_natCast]; rfl
    · simp (disch := omega) only [joinF_eq, bindO_some, s_wr, s_td, s_tm, s_pos, s_neg, cond_true, cond_false, Bool.not_true, Bool.not_false, Bool.true_and, Bool.and_true, Bool.false_and, Bool.and_false, bne_self_eq_false, decide_true, decide_false, Int.toNat_natCast, e1, e2]; rfl
  · simp (disch := omega) only [joinF_eq, bindO_some, s_wr, s_td, s_tm, s_pos, s_neg, cond_true, cond_false, Bool.not_true, Bool.not_false, Bool.true_and, Bool.and_true, Bool.false_and, Bool.and_false, bne_self_eq_false, decide_true, decide_false, Int.toNat_natCast, e1]; rfl
end
/-- what a valid spot ink is -/
structure SpotOk (s : SpotT) : Prop where
  p : labR s.2.1 = 0
  q : labR s.2.2.1 = 0
  c : CurveOk s.2.2.2.1
  n : s.2.2.2.2.length ≤ 8
  t : ∀ i, i < s.2.2.2.2.length → 0 ≤ s.2.2.2.2.getD i 0 ∧ s.2.2.2.2.getD i 0 ≤ 255
theorem spotE_ok {s : SpotT} (h : spotE s = 0) : SpotOk s := by
  unfold spotE at h
  split at h
  · split at h
    · rename_i c1 c2
      split at h
      · rename_i c3
        split at h
        · omega
        · rename_i c4
          exact ⟨c2.1, c2.2, curE_ok c3, by omega, (tonesE_ok h).2⟩
      · rename_i c3; exact absurd h c3
    · omega
  · omega
/-- the tones of a tint -/
def quick (s : SpotT) (t : Int) : List Int := tabL s.2.2.2.2.length fun i => rnd (s.2.2.2.2.getD i.toNat 0 * curveAt s.2.2.2.1 (256 * t)) 65280
theorem quick_bd {s : SpotT} {t : Int} (ok : SpotOk s) (h0 : 0 ≤ t) (h1 : t ≤ 255) {i : Nat} (hi : i < s.2.2.2.2.length) : (0 ≤ s.2.2.2.2.getD i 0 * curveAt s.2.2.2.1 (256 * t) ∧ s.2.2.2.2.getD i 0 * curveAt s.2.2.2.1 (256 * t) ≤ 16646400) ∧ 0 ≤ rnd (s.2.2.2.2.getD i 0 * curveAt s.2.2.2.1 (256 * t)) 65280 ∧ rnd (s.2.2.2.2.getD i 0 * curveAt s.2.2.2.1 (256 * t)) 65280 ≤ 255 := by
  have b := curveAt_bd ok.c (x := 256 * t) (by omega) (by omega)
  have g := ok.t i hi
  have m1 : 0 ≤ s.2.2.2.2.getD i 0 * curveAt s.2.2.2.1 (256 * t) := Int.mul_nonneg (by omega) (by omega)
  have m2 : s.2.2.2.2.getD i 0 * curveAt s.2.2.2.1 (256 * t) ≤ 255 * 65280 := Int.mul_le_mul (by omega) (by omega) (by omega) (by omega)
  unfold rnd
  generalize s.2.2.2.2.getD i 0 * curveAt s.2.2.2.1 (256 * t) = z at *
  omega
section
variable {fu : Nat} (hf : 18446744073709551616 ≤ fu) {s : SpotT} (ok : SpotOk s) {t : Int} (h0 : 0 ≤ t) (h1 : t ≤ 255)
include hf ok h0 h1
theorem quick_r : spot_Quick_r fu (s, (t, ())) = some (quick s t, ()) := by
  have hq := fun i hi => quick_bd ok h0 h1 (i := i) hi
  have hn := ok.n
  have hc := curRaw_r hf ok.c (x := 256 * t) (by omega) (by omega)
  unfold spot_Quick_r
  simp (disch := omega) only [joinF_eq, bindO_some, s_wr, s_td, s_tm, s_pos, s_neg, cond_true, cond_false, Bool.not_true, Bool.not_false, Bool.true_and, Bool.and_true, Bool.false_and, Bool.and_false, bne_self_eq_false, decide_true, decide_false, Int.toNat_natCast]
  refine (foldLoop (f := spot_Quick_l1 fu (s, (t, ()))) (n := s.2.2.2.2.length) (fu := fu) (by omega) (fun k r => r = tabL s.2.2.2.2.length fun i => if i < k then rnd (s.2.2.2.2.getD i.toNat 0 * curveAt s.2.2.2.1 (256 * t)) 65280 else 0) (fin := fun r => some (r, ()))
    (s0 := List.replicate s.2.2.2.2.length 0) (tabL_rep fun i g0 g1 => if_neg (by omega)).symm ?_ ?_).elim fun s' ⟨g1, g2⟩ => ?_
  · rintro j i r hi rfl
    refine ⟨_, rfl, ?_⟩
    obtain ⟨b1, b2⟩ := hq i hi
    unfold spot_Quick_l1
    simp (disch := omega) only [joinF_eq, bindO_some, s_wr, s_td, s_tm, s_pos, s_neg, cond_true, cond_false, Bool.not_true, Bool.not_false, Bool.true_and, Bool.and_true, Bool.false_and, Bool.and_false, bne_self_eq_false, decide_true, decide_false, Int.toNat_natCast, hc, tabL_length, nearest_s]
    refine congrArg (fun r => j ((i : Int) + 1, r)) (tabL_set (k := (i : Int)) (by omega) (if_pos (by omega)) fun k g0 g1 g2 => ?_)
    by_cases c : k < i
    · rw [if_pos (by omega), if_pos (by omega)]
    · rw [if_neg (by omega), if_neg (by omega)]
  · rintro j r rfl
    unfold spot_Quick_l1
    simp (disch := omega) only [joinF_eq, bindO_some, s_wr, s_td, s_tm, s_pos, s_neg, cond_true, cond_false, Bool.not_true, Bool.not_false, Bool.true_and, Bool.and_true, Bool.false_and, Bool.and_false, bne_self_eq_false, decide_true, decide_false, Int.toNat_natCast]
  · rw [g2, g1]
    unfold quick
    rw [tabL_congr fun i g0 g1 => if_pos (by omega)]
theorem process_r : R_SpotProcess_r fu (s, (t, ())) = some (quick s t, ()) := by
  have hq := fun i hi => quick_bd ok h0 h1 (i := i) hi
  have hn := ok.n
  have hc := curAt_r hf ok.c (x := 256 * t) (by omega) (by omega)
  unfold R_SpotProcess_r
  refine (foldLoop (f := R_SpotProcess_l1 fu (s, (t, ()))) (n := s.2.2.2.2.length) (fu := fu) (by omega) (fun k r => r = tabL k fun i => rnd (s.2.2.2.2.getD i.toNat 0 * curveAt s.2.2.2.1 (256 * t)) 65280) (fin := fun r => some (r, ()))
    (s0 := []) rfl ?_ ?_).elim fun s' ⟨g1, g2⟩ => ?_
  · rintro j i r hi rfl
    refine ⟨_, rfl, ?_⟩
    obtain ⟨b1, b2⟩ := hq i hi
    unfold R_SpotProcess_l1
    simp (disch := omega) only [joinF_eq, bindO_some, s_wr, s_td, s_tm, s_pos, s_neg, cond_true, cond_false, Bool.not_true, Bool.not_false, Bool.true_and, Bool.and_true, Bool.false_and, Bool.and_false, bne_self_eq_false, decide_true, decide_false, Int.toNat_natCast, hc, tabL_length, round_s, List.length_cons, List.length_nil]
    rw [tabL_succ]; rfl
  · rintro j r rfl
    unfold R_SpotProcess_l1
    simp (disch := omega) only [joinF_eq, bindO_some, s_wr, s_td, s_tm, s_pos, s_neg, cond_true, cond_false, Bool.not_true, Bool.not_false, Bool.true_and, Bool.and_true, Bool.false_and, Bool.and_false, bne_self_eq_false, decide_true, decide_false, Int.toNat_natCast]
  · rw [g2, g1]; rfl
end
end Go.Proofs.Ytdfocbeejgcglaa
