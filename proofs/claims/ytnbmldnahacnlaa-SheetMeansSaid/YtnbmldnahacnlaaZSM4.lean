/- SheetMeans: for every input each of these laws returns true and leaves its arguments as they were. -/
import Derived.Test.YtnbmldnahacnlaaZSM3
import Derived.Test.YtnbmldnahacnlaaProg
import Derived.Below
import Derived.WalkKit
import Derived.WalkSpells
import Derived.Test.YtnbmldnahacnlaaRows
import Derived.ProofKit
import Derived.SizedLaws
import Derived.BigQuiet
import Derived.Deep.QuietTactic
import Derived.Deep.Slices
/- Decompiling: regions that draw their order: the machine over terms says what they do. No program in sight. -/
namespace Go.Proofs.Ytnbmldnahacnlaa
open Go Go.RowKit

theorem OpF.le {P : Program} {n : Nat} {s s' : ASt} {o : Oper} {x : AV} (h : LeS s s') (k : OpF P n o s x) : OpF P n o s' x := ⟨k.dst, fun K a w G r => k.out K a w G (r.les h)⟩
theorem gdst_looks {ops : Array Oper} {o : Oper} {d : Nat} {want : Bool} (h : gdst ops o = some (d, want)) : d ∈ o.looksAt ops := by
  unfold gdst at h
  unfold Oper.looksAt
  split at h
  · rename_i j want' hg
    rw [Option.map_eq_some_iff] at h
    obtain ⟨d', h1, h2⟩ := h
    injection h2 with h2 _
    subst h2
    rw [hg]
    simp [h1]
  · cases h
theorem lregs_get {ops : Array Oper} {o : Oper} {s : ASt} {d : Nat} (hd : d ∈ o.looksAt ops) : look .any (Dr.lregs ops s o) d = look .any s.regs d := by
  unfold Dr.lregs
  revert hd
  generalize o.looksAt ops = l
  induction l with
  | nil => intro h; cases h
  | cons a l ih =>
    intro h
    rw [List.map_cons, look_cons]
    by_cases e : a = d
    · subst e; rw [if_pos rfl]
    · rw [if_neg e]
      exact ih ((List.mem_cons.1 h).resolve_left fun e' => e e'.symm)
def nxOf (nx0 b0 : Nat) (st : SSt D) : Nat := nx0 + (st.nx - b0)
/-- what holds between the operations -/
structure RI (F : List (Nat → AV)) (m : Nat → Nat) (nx0 b0 : Nat) (st0 st : SSt D) : Prop where
  mok : MOk m (nxOf nx0 b0 st) st
  ge : b0 ≤ st.nx
  fr : FrOk m st.blk st.fr F
  fix : Fix st0 st
  good : ∀ k, st.blk k ≠ .dead → Good b0 st0 k
section
variable {P : Program} {n : Nat} {F : List (Nat → AV)} {ρ : Ty} {fu : Nat} {C : DC} {r : ρ.den}
variable {m : Nat → Nat} {nx0 b0 : Nat} {st0 st : SSt D} {T : List (List Nat)} {ws cr : List (Nat × Nat)} {i : Nat} {ops : Array Oper} {o : Oper} {l : List Oper} {Kt : ASt → Prop}
theorem RI.put (h : RI F m nx0 b0 st0 st) (d : Option Nat) (x : SV D) : RI F m nx0 b0 st0 (st.put d x) := by
  have e : nxOf nx0 b0 (st.put d x) = nxOf nx0 b0 st := by cases d <;> rfl
  refine ⟨by rw [e]; exact put_mok h.mok d x, by cases d <;> exact h.ge, by rw [put_blk]; cases d <;> exact h.fr, h.fix.trans (put_fix st d x), by rw [put_blk]; exact h.good⟩
theorem gst_yesS (h : wantS ops o st = .yes) {nx : Nat} {W cr : List (Nat × Nat)} : o.guard = none ∨ gst ops o (Dr.lcl ops T W nx0 i cr (st.enc m nx) o 0) = some true := by
  unfold wantS at h
  split at h
  · rename_i hg; exact .inl hg
  · split at h
    · cases h
    · rename_i d want hg
      right
      have e := wantV_yes (m := m) (st := st) h
      rw [← enc_get st m nx, ← lregs_get (gdst_looks hg)] at e
      unfold gst
      rw [hg]
      show (match look AV.any (Dr.lregs ops (st.enc m nx) o) d, want with
        | .bool true, true => some true
        | .bool false, false => some true
        | .bool true, false => some false
        | .bool false, true => some false
        | .und, _ => some false
        | _, _ => none) = _
      rw [e]
      cases want <;> rfl
theorem gst_noS (h : wantS ops o st = .no) {nx : Nat} {W cr : List (Nat × Nat)} : gst ops o (Dr.lcl ops T W nx0 i cr (st.enc m nx) o 0) = some false := by
  obtain ⟨d, want, hg, hb⟩ := wantS_no (m := m) (nx := nx) h
  rw [← lregs_get (gdst_looks hg)] at hb
  unfold gst
  rw [hg]
  show (match look AV.any (Dr.lregs ops (st.enc m nx) o) d, want with
    | .bool true, true => some true
    | .bool false, false => some true
    | .bool true, false => some false
    | .bool false, true => some false
    | .und, _ => some false
    | _, _ => none) = _
  rcases hb with hb | hb <;> rw [hb] <;> cases want <;> rfl
theorem gst_put {d : Nat} {want b : Bool} (hg : gdst ops o = some (d, want)) {nx : Nat} {W cr : List (Nat × Nat)} : gst ops o (Dr.lcl ops T W nx0 i cr ((st.put (some d) (.bool (.bL b))).enc m nx) o 0) = some (b == want) := by
  have e : look AV.any (Dr.lregs ops ((st.put (some d) (.bool (.bL b))).enc m nx) o) d = .bool b := by
    rw [lregs_get (gdst_looks hg), put_enc]
    show look .any ((d, SV.enc m st.blk (.bool (.bL b))) :: (st.enc m nx).regs) d = _
    rw [look_self, SV.enc]; rfl
  unfold gst
  rw [hg]
  show (match look AV.any (Dr.lregs ops ((st.put (some d) (.bool (.bL b))).enc m nx) o) d, want with
    | .bool true, true => some true
    | .bool false, false => some true
    | .bool true, false => some false
    | .bool false, true => some false
    | .und, _ => some false
    | _, _ => none) = _
  rw [e]
  cases b <;> cases want <;> rfl
theorem lclS_memS : MemLe m (lclS ops T ws b0 i cr st o).blk m st.blk (visS T ws b0 i cr) (fun k _ => visS T ws b0 i cr k) := by
  have e : ∀ k, visS T ws b0 i cr k = true → (lclS ops T ws b0 i cr st o).blk k = st.blk k := fun k hk => by rw [lclS_blk, hk]; rfl
  exact ⟨fun id h => .inr ⟨by unfold isBox; rw [e id h], rfl⟩, fun id v h => .inr ⟨by unfold rowLen; rw [e id h], rfl⟩⟩
theorem nmdS (hL : Lay m nx0 b0 st0) (hc : ∀ p ∈ cr, b0 ≤ p.2) (hI : RI F m nx0 b0 st0 st) {x : SV D} (h : x.refs (visS T ws b0 i cr) (fun k _ => visS T ws b0 i cr k) = true) : (x.enc m (lclS ops T ws b0 i cr st o).blk).nmd (vis T nx0 i (mapP m cr)) = true := by
  have key : ∀ id, visS T ws b0 i cr id = true → (lclS ops T ws b0 i cr st o).blk id ≠ .dead → vis T nx0 i (mapP m cr) (m id) = true := by
    intro id hv hb
    rw [lclS_blk, hv] at hb
    rw [vis_m hL hc (hI.good id hb)]
    unfold visS at hv
    rw [Bool.and_eq_true] at hv
    exact hv.1
  refine enc_nmd (fun id hp hb => key id hp fun e => ?_) (fun id v n hp hb => key id hp fun e => ?_) x h
  · unfold isBox at hb; rw [e] at hb; cases hb
  · unfold rowLen at hb; rw [e] at hb; cases hb
theorem liveS (hL : Lay m nx0 b0 st0) (hc : ∀ p ∈ cr, b0 ≤ p.2) (hI : RI F m nx0 b0 st0 st) {id : Nat} (hv : visS T ws b0 i cr id = true) (hb : st.blk id ≠ .dead) : vis T nx0 i (mapP m cr) (m id) = true := by
  rw [vis_m hL hc (hI.good id hb)]
  unfold visS at hv
  rw [Bool.and_eq_true] at hv
  exact hv.1
theorem nmdB (hL : Lay m nx0 b0 st0) (hc : ∀ p ∈ cr, b0 ≤ p.2) (hI : RI F m nx0 b0 st0 st) {b : SB D} (h : b.refs (visS T ws b0 i cr) (fun k _ => visS T ws b0 i cr k) = true) : (b.enc m st.blk).nmd (vis T nx0 i (mapP m cr)) = true := by
  cases b with
  | dead => rfl
  | box cs e =>
    rw [SB.refs] at h
    refine encL_nmd (fun id hp hb => liveS hL hc hI hp fun e => ?_) (fun id v n hp hb => liveS hL hc hI hp fun e => ?_) cs h
    · unfold isBox at hb; rw [e] at hb; cases hb
    · unfold rowLen at hb; rw [e] at hb; cases hb
  | row fr t xs e v =>
    show List.all _ _ = true
    refine List.all_eq_true.2 fun row hr => ?_
    obtain ⟨x, _, rfl⟩ := List.mem_map.1 hr
    have e1 : SV.encL m st.blk (cellsE fr t (.var x : E D t)) = t.cells fr x := cellsE_enc fr t (.var x)
    rw [← e1]
    exact encL_nmd (pB := fun _ => false) (pR := fun _ _ => false) (fun id h => by cases h) (fun id v n h => by cases h) _ (cells_nmd _ _)
theorem lregs_ev {s : ASt} {x : Operand} (hx : x ∈ o.op.operands.toList) {hp : List (Nat × AB)} {k : Nat} : (⟨Dr.lregs ops s o, hp, k⟩ : ASt).ev x = s.ev x := by
  cases x with
  | tmp t =>
    show look .any (Dr.lregs ops s o) t = look .any s.regs t
    refine lregs_get ?_
    unfold Oper.looksAt
    rw [List.mem_append]
    left
    rw [List.mem_filterMap]
    exact ⟨.tmp t, hx, rfl⟩
  | const v => rfl
  | global g => rfl
  | func f => rfl
theorem opWr_box {t : TypeId} {x y : Operand} {z : Option Value} {s b : Nat} {id off : Nat} {cs vs : List AV} {e : TypeId} {g : Option (Nat × Bool)} {ty : TypeId} {ps : String} {af : Array Edge} {st : ASt} (hx : st.ev x = .box id off) (hb : look .dead st.heap id = .box cs e) (hy : (st.ev y).cells = vs) (h1 : allOne vs = true) (hI : tyI P t = some (z, s, b)) (hs : vs.length = s) (hle : off + s ≤ cs.length) :
    Dr.OpWr P n ⟨none, .store t x y, ty, ps, af, g⟩ st id (.box (setR cs off vs) e) .und := ⟨rfl, fun K a w G r => by
  subst hy
  have r : RelG ⟨K.w0, w, G⟩ n st a w G := ⟨r.nx, r.hr, Ext.refl _ _, r.size, r.defers, r.regs⟩
  have e1 := r.ev x
  rw [hx] at e1
  have hcv := (r.ev y).cellsV h1
  obtain ⟨gg, us, e2, hρ, _, _, _⟩ := r.boxAt hb e1
  have hid : id < G.nx := by
    have hk := r.hr.blk id
    rw [hb] at hk
    exact hk.1
  obtain ⟨w', hrun, r2, hk2⟩ := RelG.storeBox (P := P) (e := e) hid hρ (st.ev y).cells (a.eval y).cells.toList 0 off cs w r hb (by have := hcv.size; simp; omega) (by simpa using hcv.size) (fun v hv => by
    obtain ⟨i, hi, hv⟩ := List.getElem_of_mem hv
    exact hcv.one i v (by rw [← hv]; simp)) (fun j x' v hx' hv => hcv.rel j x' v hx' (by simpa using hv))
  refine ⟨undef, w', G, .inr ⟨?_, rfl⟩, r2.hr, r2.ext, rfl, fun j hne => ⟨rfl, rfl, fun hj g hg => hk2 g fun e => ?_⟩, .dat .und⟩
  · simp [execOp, Instr.storeAt, e2, Instr.sureAddr, run_storeVar' hI (show (a.eval y).cells.size = s by rw [hcv.size, hs]), hrun]
  · subst e
    exact r.hr.dist j id g hj hid hne hg (by rw [hρ]; rfl)⟩
theorem onlyW_m {id : Nat} (h : Dr.onlyW ws i id = true) : Dr.onlyW (mapP m ws) i (m id) = true := by
  unfold Dr.onlyW mapP at *
  rw [List.all_map]
  refine List.all_eq_true.2 fun p hp => ?_
  have := List.all_eq_true.1 h p hp
  show (bif Nat.beq p.1 i then Nat.beq (m p.2) (m id) else true) = true
  cases hb : Nat.beq p.1 i with
  | false => rfl
  | true =>
    rw [hb] at this
    have := Nat.eq_of_beq_eq_true this
    rw [this]
    exact Nat.beq_refl _
theorem storeB_ok {Tb : Tab} {t : TypeId} {a v : SV D} {id : Nat} {b : SB D} (h : storeB Tb st t a v = some (id, b)) : ∃ Z s bb off cs e, lk Tb.inf t = some (Z, s, bb) ∧ allOneS st v.cells = true ∧ v.cells.length = s ∧ a = .box id off ∧ st.blk id = .box cs e ∧ off + s ≤ cs.length ∧ b = .box (setRS cs off v.cells) e := by
  unfold storeB at h
  split at h
  · rename_i Z s bb hI
    cases hc : (allOneS st v.cells && Nat.beq v.cells.length s) with
    | false => rw [hc] at h; cases h
    | true =>
      rw [hc] at h
      simp only [cond_true] at h
      rw [Bool.and_eq_true] at hc
      split at h
      · rename_i id' off
        split at h
        · rename_i cs e hb
          cases hl : Nat.ble (off + s) cs.length with
          | false => rw [hl] at h; cases h
          | true =>
            rw [hl] at h
            simp only [cond_true, Option.some.injEq, Prod.mk.injEq] at h
            obtain ⟨rfl, rfl⟩ := h
            exact ⟨Z, s, bb, off, cs, e, hI, hc.1, Nat.eq_of_beq_eq_true hc.2, rfl, hb, Nat.le_of_ble_eq_true hl, rfl⟩
        · cases h
      · cases h
  · cases h
abbrev AGm (P : Program) (n : Nat) (ops : Array Oper) (T : List (List Nat)) (ws : List (Nat × Nat)) (nx0 b0 : Nat) (m : Nat → Nat) (Kt : ASt → Prop) (i : Nat) (cr : List (Nat × Nat)) (l : List Oper) (st : SSt D) : Prop :=
  Dr.AG P n ops T (mapP m ws) nx0 Kt i (mapP m cr) l (st.enc m (nxOf nx0 b0 st))
theorem AGm.put {d : Option Nat} {x : SV D} {y : AV} (hx : Les (x.enc m st.blk) y) (k : AGm P n ops T ws nx0 b0 m Kt i cr l (st.put d x)) : Dr.AG P n ops T (mapP m ws) nx0 Kt i (mapP m cr) l ((st.enc m (nxOf nx0 b0 st)).put d y) := by
  have e : nxOf nx0 b0 (st.put d x) = nxOf nx0 b0 st := by cases d <;> rfl
  refine .le ?_ k
  rw [e, put_enc]
  exact (LeS.refl _).put hx
theorem skipR_ok (hd : dok o.dst n = true) (hW : Dr.noW ws i = true) (hg : gst ops o (Dr.lcl ops T (mapP m ws) nx0 i (mapP m cr) (st.enc m (nxOf nx0 b0 st)) o 0) = some false) (k : AGm P n ops T ws nx0 b0 m Kt (i + 1) cr l (st.put o.dst .und)) : AGm P n ops T ws nx0 b0 m Kt i cr (o :: l) st := by
  refine .step (.skip (by rw [noW_m]; exact hW) hg hd) (AGm.put ?_ k)
  rw [SV.enc]; exact .refl _
theorem writeR_ok (hC : C.ok P) (hL : Lay m nx0 b0 st0) (hws : ∀ p ∈ ws, Good b0 st0 p.2) (hc : ∀ p ∈ cr, b0 ≤ p.2) (hI : RI F m nx0 b0 st0 st)
    (hg : o.guard = none ∨ gst ops o (Dr.lcl ops T (mapP m ws) nx0 i (mapP m cr) (st.enc m (nxOf nx0 b0 st)) o 0) = some true)
    {K : List (Nat × Nat) → SSt D → G D (KD ρ) ρ} (h : (writeR C T ws b0 i cr st o K).den fu = some r)
    (k : ∀ cr' st', RI F m nx0 b0 st0 st' → (∀ p ∈ cr', b0 ≤ p.2) → (K cr' st').den fu = some r → AGm P n ops T ws nx0 b0 m Kt (i + 1) cr' l st') : AGm P n ops T ws nx0 b0 m Kt i cr (o :: l) st := by
  obtain ⟨d, op, ty, ps, af, gg⟩ := o
  unfold writeR at h
  simp only at h
  split at h
  · rename_i t y z
    split at h
    · rename_i id b hs
      cases hb : (visS T ws b0 i cr id && (ws.any fun p => Nat.beq p.1 i && Nat.beq p.2 id) && Dr.onlyW ws i id && b.refs (visS T ws b0 i cr) (fun k _ => visS T ws b0 i cr k) && (st.blk id).refs (visS T ws b0 i cr) (fun k _ => visS T ws b0 i cr k)) with
      | false => rw [hb] at h; cases h
      | true =>
        rw [hb] at h
        simp only [cond_true] at h
        simp only [Bool.and_eq_true] at hb
        obtain ⟨⟨⟨⟨b1, b2⟩, b3⟩, b4⟩, b5⟩ := hb
        obtain ⟨Z, s, bb, off, cs, e, hI', h1, hls, ha, hblk, hle, rfl⟩ := storeB_ok hs
        have hlive : st.blk id ≠ .dead := by rw [hblk]; simp
        have hi : isBox st.blk id = true := by unfold isBox; rw [hblk]
        have ey : (st.enc m (nxOf nx0 b0 st)).ev y = .box (m id) off := by rw [enc_ev, ha, SV.enc, hi]; rfl
        have ez : ((st.enc m (nxOf nx0 b0 st)).ev z).cells = SV.encL m st.blk (st.ev z).cells := by rw [enc_ev, enc_cells]
        have hbb := enc_blk hI.mok hlive
        have hbb' := hbb
        rw [hblk, SB.enc] at hbb'
        have hset := hset_les (b := .box (setRS cs off (st.ev z).cells) e) (b' := .box (setR (SV.encL m st.blk cs) off (SV.encL m st.blk (st.ev z).cells)) e) (pB := fun _ => true) (pR := fun _ _ => true) hI.mok (.refl _) hlive (by simp) (memLe_box hblk) (refs_all st) (by
          rw [SB.enc, setRS_enc]
          have hH : ∀ l : List (SV D), LesL (SV.encL m (st.hset id (.box (setRS cs off (st.ev z).cells) e)).blk l) (SV.encL m st.blk l) := fun l => encL_les (memLe_box (pB := fun _ => true) (pR := fun _ _ => true) hblk) l (svL_refs_all l)
          exact .box e (setR_les (hH cs) (hH _) off)) hI.fr
        have hRI : RI F m nx0 b0 st0 (st.hset id (.box (setRS cs off (st.ev z).cells) e)) := ⟨hset.1, hI.ge, hset.2.2, hI.fix.trans ⟨rfl, rfl, rfl⟩, fun k hk => hI.good k (by
          rw [hset_blk] at hk
          by_cases e' : id = k
          · subst e'; exact hlive
          · rw [if_neg e'] at hk; exact hk)⟩
        refine .step (.write (id := m id) (b := .box (setR (SV.encL m st.blk cs) off (SV.encL m st.blk (st.ev z).cells)) e) (x := .und) [m id] (fun j hj => ?_) hg ?_ ?_ (onlyW_m b3) (fun hp kk hhp => ?_) ?_ rfl) (.le ?_ (k cr _ hRI hc h))
        · rw [List.mem_singleton] at hj
          subst hj
          refine ⟨?_, ?_⟩
          · unfold Dr.visW
            rw [liveS hL hc hI b1 hlive, okW_m hL hws (hI.good id hlive)]
            unfold visS at b1
            rw [Bool.and_eq_true] at b1
            rw [b1.2]; rfl
          · rw [hbb]; exact nmdB hL hc hI b5
        · unfold Dr.visW
          rw [liveS hL hc hI b1 hlive, okW_m hL hws (hI.good id hlive)]
          unfold visS at b1
          rw [Bool.and_eq_true] at b1
          rw [b1.2]; rfl
        · obtain ⟨p, hp, hpe⟩ := List.any_eq_true.1 b2
          rw [Bool.and_eq_true] at hpe
          have e1 := Nat.eq_of_beq_eq_true hpe.1
          have e2 := Nat.eq_of_beq_eq_true hpe.2
          exact List.mem_map.2 ⟨p, hp, by rw [e1, e2]⟩
        · have hz := lregs_ev (o := ⟨none, .store t y z, ty, ps, af, gg⟩) (ops := ops) (s := st.enc m (nxOf nx0 b0 st)) (x := z) (hp := hp) (k := kk) (by simp [Op.operands])
          have hy := lregs_ev (o := ⟨none, .store t y z, ty, ps, af, gg⟩) (ops := ops) (s := st.enc m (nxOf nx0 b0 st)) (x := y) (hp := hp) (k := kk) (by simp [Op.operands])
          refine opWr_box (hy.trans ey) ((hhp (m id) (by simp)).trans hbb') (by rw [hz, ez]) (allOneS_enc h1) (allP_at hC.T.inf hI') (by rw [encL_length]; exact hls) (by rw [encL_length]; exact hle)
        · have := nmdB (b := .box (setRS cs off (st.ev z).cells) e) hL hc hI b4
          rw [SB.enc, setRS_enc] at this
          exact this
        · exact hset.2.1
    · cases h
  · cases h
theorem stepR_ok' (hC : C.ok P) (hL : Lay m nx0 b0 st0) (hws : ∀ p ∈ ws, Good b0 st0 p.2) (hc : ∀ p ∈ cr, b0 ≤ p.2) (hI : RI F m nx0 b0 st0 st) (hd : dok o.dst n = true)
    (hg : o.guard = none ∨ gst ops o (Dr.lcl ops T (mapP m ws) nx0 i (mapP m cr) (st.enc m (nxOf nx0 b0 st)) o 0) = some true)
    {K : List (Nat × Nat) → SSt D → G D (KD ρ) ρ} (h : (stepR' C T ws b0 i cr (lclS ops T ws b0 i cr st o) st o K).den fu = some r)
    (k : ∀ cr' st', RI F m nx0 b0 st0 st' → (∀ p ∈ cr', b0 ≤ p.2) → (K cr' st').den fu = some r → AGm P n ops T ws nx0 b0 m Kt (i + 1) cr' l st') : AGm P n ops T ws nx0 b0 m Kt i cr (o :: l) st := by
  unfold stepR' at h
  split at h
  · rename_i x g hx
    cases hb : (Dr.noW ws i && x.refs (visS T ws b0 i cr) (fun k _ => visS T ws b0 i cr k)) with
    | false => rw [hb] at h; cases h
    | true =>
      rw [hb] at h
      rw [Bool.and_eq_true] at hb
      simp only [cond_true] at h
      obtain ⟨hgd, h⟩ := grdG_den h
      have hop : ∀ k, OpR P n o (Dr.lcl ops T (mapP m ws) nx0 i (mapP m cr) (st.enc m (nxOf nx0 b0 st)) o k) (x.enc m (lclS ops T ws b0 i cr st o).blk) := fun k => ⟨hd, fun K a w G r => by
        have hk := lt_of_rel hL hws hc hI.good hI.mok r
        have hm := lclS_mok (ops := ops) (T := T) (ws := ws) (b0 := b0) (i := i) (cr := cr) (o := o) hI.mok hk
        exact (OpR.le (lclS_les hL hws hc hI.good hI.mok hk) (rd_ok (n := n) hC.T hm hx hgd hd)).out K a w G r⟩
      have hnm := nmdS (ops := ops) (o := o) hL hc hI hb.2
      have hles : Les (x.enc m st.blk) (x.enc m (lclS ops T ws b0 i cr st o).blk) := enc_les lclS_memS x hb.2
      cases hl : lets o.op with
      | true =>
        rw [hl] at h
        simp only [cond_true] at h
        obtain ⟨y, hy, h⟩ := letV_den h
        exact .step (.read (by rw [noW_m]; exact hb.1) hg hop hnm) (AGm.put (by rw [hy]; exact hles) (k cr _ (hI.put _ _) hc h))
      | false =>
        rw [hl] at h
        exact .step (.read (by rw [noW_m]; exact hb.1) hg hop hnm) (AGm.put hles (k cr _ (hI.put _ _) hc h))
  · cases hb : Dr.noW ws i with
    | false =>
      rw [hb] at h
      exact writeR_ok hC hL hws hc hI hg h k
    | true =>
      rw [hb] at h
      simp only [cond_true] at h
      obtain ⟨d, op, ty, ps, af, gg⟩ := o
      have hd : dok d n = true := hd
      simp only at h
      unfold callR at h
      split at h
      · rename_i cal args ats _
        split at h
        · rename_i Fn caps hcal
          split at h
          · rename_i hF
            have hcal' := allP_at hC.cas hF
            split at h
            · rename_i c hctr
              split at h
              · rename_i e hargs
                rw [G.den] at h
                unfold bindO at h
                split at h
                · rename_i y hy
                  have hAF := allP_at hC.ctrs hctr fu e.den y hy
                  have hop : ∀ k, OpF P n ⟨d, .call ⟨.value cal, args, ats⟩, ty, ps, af, gg⟩ (Dr.lcl ops T (mapP m ws) nx0 i (mapP m cr) (st.enc m (nxOf nx0 b0 st)) ⟨d, .call ⟨.value cal, args, ats⟩, ty, ps, af, gg⟩ k) (oneOf (c.r.avs true y)) := fun k => ⟨hd, fun K a w G r => by
                    have hk := lt_of_rel hL hws hc hI.good hI.mok r
                    have hm := lclS_mok (ops := ops) (T := T) (ws := ws) (b0 := b0) (i := i) (cr := cr) (o := ⟨d, .call ⟨.value cal, args, ats⟩, ty, ps, af, gg⟩) hI.mok hk
                    have hc' : ((lclS ops T ws b0 i cr st ⟨d, .call ⟨.value cal, args, ats⟩, ty, ps, af, gg⟩).enc m k).ev cal = .fn Fn (SV.encL m (lclS ops T ws b0 i cr st ⟨d, .call ⟨.value cal, args, ats⟩, ty, ps, af, gg⟩).blk caps) := by rw [enc_ev, hcal, SV.enc]
                    exact (OpF.le (lclS_les hL hws hc hI.good hI.mok hk) (OpF.of hc' (evS_append _ args.toList caps) hcal' hd hAF (exArgs_ok hm _ _ _ hargs))).out K a w G r⟩
                  refine .step (.call (by rw [noW_m]; exact hb) hg hop ?_) (AGm.put ?_ (k cr _ (hI.put _ _) hc h))
                  · have e1 : (oneOfS (svsE true c.r (.var y : E D c.r))).enc m (fun _ => SB.dead) = oneOf (c.r.avs true y) := by rw [oneOfS_enc, svsE_enc]; rfl
                    rw [← e1]
                    exact enc_nmd (pB := fun _ => false) (pR := fun _ _ => false) (fun id h => by cases h) (fun id v n h => by cases h) _ (one_nmd (datas_nmd c.r _))
                  · rw [oneOfS_enc, svsE_enc]; exact .refl _
                · cases h
              · cases h
            · cases h
          · cases h
        · cases h
      · cases h
theorem sR_ok (hC : C.ok P) (hL : Lay m nx0 b0 st0) (hws : ∀ p ∈ ws, Good b0 st0 p.2) {K : SSt D → G D (KD ρ) ρ} (hK : ∀ st', RI F m nx0 b0 st0 st' → (K st').den fu = some r → Kt (st'.enc m (nxOf nx0 b0 st'))) : ∀ (l : List Oper) (i : Nat) (cr : List (Nat × Nat)) (st : SSt D), (sR C n ops T ws b0 K i cr l st).den fu = some r → RI F m nx0 b0 st0 st → (∀ p ∈ cr, b0 ≤ p.2) →
    AGm P n ops T ws nx0 b0 m Kt i cr l st
  | [], i, cr, st, h, hI, hc => .nil (hK st hI h)
  | o :: l, i, cr, st, h, hI, hc => by
    rw [sR] at h
    cases hd : dok o.dst n with
    | false => rw [hd] at h; cases h
    | true =>
      rw [hd] at h
      simp only [cond_true] at h
      have ihr : ∀ cr' st', RI F m nx0 b0 st0 st' → (∀ p ∈ cr', b0 ≤ p.2) → (sR C n ops T ws b0 K (i + 1) cr' l st').den fu = some r → AGm P n ops T ws nx0 b0 m Kt (i + 1) cr' l st' :=
        fun cr' st' h1 h2 h3 => sR_ok hC hL hws hK l (i + 1) cr' st' h3 h1 h2
      have sk : ∀ st1, RI F m nx0 b0 st0 st1 → gst ops o (Dr.lcl ops T (mapP m ws) nx0 i (mapP m cr) (st1.enc m (nxOf nx0 b0 st1)) o 0) = some false → (bif Dr.noW ws i then sR C n ops T ws b0 K (i + 1) cr l (st1.put o.dst .und) else .fail).den fu = some r → AGm P n ops T ws nx0 b0 m Kt i cr (o :: l) st1 := by
        intro st1 hI hg h
        cases hb : Dr.noW ws i with
        | false => rw [hb] at h; cases h
        | true =>
          rw [hb] at h
          exact skipR_ok hd hb hg (ihr cr _ (hI.put _ _) hc h)
      split at h
      · rename_i hw
        exact stepR_ok' hC hL hws hc hI hd (gst_yesS hw) h ihr
      · rename_i hw
        exact sk st hI (gst_noS hw) h
      · rename_i c d want hw
        obtain ⟨hg, hx⟩ := wantS_ask hw
        rw [G.den] at h
        have know : ∀ b, c.den = b → AGm P n ops T ws nx0 b0 m Kt i cr (o :: l) (st.put (some d) (.bool (.bL b))) → AGm P n ops T ws nx0 b0 m Kt i cr (o :: l) st := by
          intro b hb k
          refine .le ?_ k
          have e : nxOf nx0 b0 (st.put (some d) (.bool (.bL b))) = nxOf nx0 b0 st := rfl
          rw [e, put_enc]
          refine ⟨fun k => ?_, fun k => .refl _, rfl⟩
          show Les (look .any ((d, SV.enc m st.blk (.bool (.bL b))) :: (st.enc m (nxOf nx0 b0 st)).regs) k) _
          rw [look_cons]
          split
          · rename_i e
            subst e
            rw [enc_get, hx, SV.enc, SV.enc]
            exact .of (congrArg AV.bool hb.symm)
          · exact .refl _
        cases hcd : (c.den : Bool) with
        | true =>
          rw [hcd] at h
          simp only [cond_true] at h
          refine know true hcd ?_
          cases want with
          | true => exact stepR_ok' hC hL hws hc (hI.put _ _) hd (.inr (gst_put hg)) h ihr
          | false => exact sk _ (hI.put _ _) (gst_put hg) h
        | false =>
          rw [hcd] at h
          simp only [cond_false] at h
          refine know false hcd ?_
          cases want with
          | true => exact sk _ (hI.put _ _) (gst_put hg) h
          | false => exact stepR_ok' hC hL hws hc (hI.put _ _) hd (.inr (gst_put hg)) h ihr
      · cases h
theorem drR_ok (hC : C.ok P) {self : SelfG D (KD ρ) ρ} (hS : SelfOkG P fu self) : DrawOk (ρ := ρ) P fu n (drR C self) := by
  intro an l st K r F s id h hs
  unfold drR at h
  generalize wsD C.T 0 (l.take (tailN (ancs l []) l.length)) st = ws at h
  unfold drW at h
  cases hb : (Dr.planR l (ancs l []) && (ws.all fun p => isLive (st.blk p.2) || Nat.ble st.nx p.2) && Dr.tailR l (ancs l []) (tailN (ancs l []) l.length)) with
  | false => rw [hb] at h; cases h
  | true =>
    rw [hb] at h
    rw [Bool.and_eq_true, Bool.and_eq_true] at hb
    simp only [cond_true] at h
    obtain ⟨m0, nx0, hm, hr, hf⟩ := hs
    let m : Nat → Nat := fun k => if k < st.nx then m0 k else nx0 + (k - st.nx)
    have hlv : ∀ k, st.blk k ≠ .dead → k < st.nx := fun k hk => hm.live hk
    have hmk : ∀ k, k < st.nx → m k = m0 k := fun k hk => if_pos hk
    have hmn : ∀ k, st.nx ≤ k → m k = nx0 + (k - st.nx) := fun k hk => if_neg (by omega)
    have hmem : MemLe m0 st.blk m st.blk (fun _ => true) (fun _ _ => true) := by
      refine ⟨fun id _ => ?_, fun id v _ => ?_⟩
      · by_cases e : st.blk id = .dead
        · left; unfold isBox; rw [e]
        · exact .inr ⟨rfl, hmk id (hlv id e)⟩
      · by_cases e : st.blk id = .dead
        · left; unfold rowLen; rw [e]
        · exact .inr ⟨rfl, hmk id (hlv id e)⟩
    have hall := refs_all st
    unfold SSt.refs at hall
    simp only [Bool.and_eq_true] at hall
    obtain ⟨r1, r2, r3, r4, r5⟩ := hall
    have hmok : MOk m nx0 st := ⟨fun k hk => by rw [hmk k (hlv k hk)]; exact hm.lt k hk, fun k k' hk hk' e => by rw [hmk k (hlv k hk), hmk k' (hlv k' hk')] at e; exact hm.inj k k' hk hk' e, hm.keys⟩
    have hles : LeS (st.enc m nx0) (st.enc m0 nx0) := by
      refine ⟨fun d => ?_, fun k => ?_, rfl⟩
      · exact encR_les hmem (st.regs ++ st.kp) (by rw [refsR_append, r1, r2]; rfl) d
      · exact encH_les hmem (st.heap ++ st.hk) (by rw [refsH_append, r3, r4]; rfl) (fun p hp => hmk p.1 (hm.keys p hp).1) k
    have hL : Lay m nx0 st.nx st := ⟨hmn, fun k hk hb => by rw [hmk k hk]; exact hm.lt k hb, fun k k' h1 h2 e => hmok.inj k k' h1 h2 e, hlv⟩
    have hws : ∀ p ∈ ws, Good st.nx st p.2 := by
      intro p hp
      have := List.all_eq_true.1 hb.1.2 p hp
      rw [Bool.or_eq_true] at this
      rcases this with h | h
      · right
        intro e
        rw [e] at h
        cases h
      · exact .inl (Nat.le_of_ble_eq_true h)
    have hnx : nxOf nx0 st.nx st = nx0 := by unfold nxOf; omega
    have hI : RI F m nx0 st.nx st st := ⟨by rw [hnx]; exact hmok, Nat.le_refl _, hf.les' hmem r5, .refl st, fun k hk => .inr hk⟩
    have := sR_ok (ops := ⟨l⟩) (T := ancs l []) (ws := ws) (Kt := fun s => AL P n l.toArray (PostL F st fun st' => (K st').den fu = some r) (l.drop (tailN (ancs l []) l.length)) s) hC hL hws (fun st' hI' h' => sL_ok hC hS an _ _ st' _ h' ⟨m, _, hI'.mok, .refl _, hI'.fr⟩ hI'.fix) (l.take (tailN (ancs l []) l.length)) 0 [] st h hI (fun p hp => by cases hp)
    unfold AGm at this
    rw [hnx] at this
    exact AW.rle (hr.trans hles.rle) (Dr.AW.drawR (mapP m ws) (tailN (ancs l []) l.length) hC.mixed rfl hb.1.1 hb.2 this)
end
end Go.Proofs.Ytnbmldnahacnlaa
/- Facts on the types and functions that the symbolic walks ask for (printed by a program). -/
namespace Go.Proofs.Ytnbmldnahacnlaa
open Go
def tab : Tab := {
  und := [(0, Go.TypeDesc.tuple #[]),
    (1, Go.TypeDesc.func #[] #[] false),
    (2, Go.TypeDesc.int (Go.IntKind.i64)),
    (3, Go.TypeDesc.int (Go.IntKind.i64)),
    (4, Go.TypeDesc.bool),
    (5, Go.TypeDesc.int (Go.IntKind.u8)),
    (6, Go.TypeDesc.int (Go.IntKind.u8)),
    (7, Go.TypeDesc.struct #[{ name := "x", type := 2, offset := 0, embedded := false, tag := "", pkgPath := "runtime", byteOffset := 0 }, { name := "y", type := 3, offset := 1, embedded := false, tag := "", pkgPath := "runtime", byteOffset := 8 }, { name := "signed", type := 4, offset := 2, embedded := false, tag := "", pkgPath := "runtime", byteOffset := 16 }, { name := "code", type := 6, offset := 3, embedded := false, tag := "", pkgPath := "runtime", byteOffset := 17 }]),
    (8, Go.TypeDesc.struct #[{ name := "x", type := 2, offset := 0, embedded := false, tag := "", pkgPath := "runtime", byteOffset := 0 }, { name := "y", type := 3, offset := 1, embedded := false, tag := "", pkgPath := "runtime", byteOffset := 8 }, { name := "signed", type := 4, offset := 2, embedded := false, tag := "", pkgPath := "runtime", byteOffset := 16 }, { name := "code", type := 6, offset := 3, embedded := false, tag := "", pkgPath := "runtime", byteOffset := 17 }]),
    (9, Go.TypeDesc.string),
    (10, Go.TypeDesc.string),
    (11, Go.TypeDesc.string),
    (12, Go.TypeDesc.int (Go.IntKind.u64)),
    (13, Go.TypeDesc.struct #[{ name := "msg", type := 9, offset := 0, embedded := false, tag := "", pkgPath := "runtime", byteOffset := 0 }, { name := "addr", type := 12, offset := 1, embedded := false, tag := "", pkgPath := "runtime", byteOffset := 16 }]),
    (14, Go.TypeDesc.struct #[{ name := "msg", type := 9, offset := 0, embedded := false, tag := "", pkgPath := "runtime", byteOffset := 0 }, { name := "addr", type := 12, offset := 1, embedded := false, tag := "", pkgPath := "runtime", byteOffset := 16 }]),
    (15, Go.TypeDesc.pointer 133),
    (16, Go.TypeDesc.pointer 136),
    (17, Go.TypeDesc.pointer 146),
    (18, Go.TypeDesc.struct #[{ name := "typ", type := 17, offset := 0, embedded := false, tag := "", pkgPath := "internal/runtime/maps", byteOffset := 0 }]),
    (19, Go.TypeDesc.struct #[{ name := "typ", type := 17, offset := 0, embedded := false, tag := "", pkgPath := "internal/runtime/maps", byteOffset := 0 }]),
    (20, Go.TypeDesc.interface #[]),
    (21, Go.TypeDesc.int (Go.IntKind.i32)),
    (22, Go.TypeDesc.slice 5),
    (23, Go.TypeDesc.struct #[{ name := "W", type := 3, offset := 0, embedded := false, tag := "", pkgPath := "", byteOffset := 0 }, { name := "H", type := 3, offset := 1, embedded := false, tag := "", pkgPath := "", byteOffset := 8 }, { name := "Data", type := 22, offset := 2, embedded := false, tag := "", pkgPath := "", byteOffset := 16 }]),
    (24, Go.TypeDesc.struct #[{ name := "W", type := 3, offset := 0, embedded := false, tag := "", pkgPath := "", byteOffset := 0 }, { name := "H", type := 3, offset := 1, embedded := false, tag := "", pkgPath := "", byteOffset := 8 }, { name := "Data", type := 22, offset := 2, embedded := false, tag := "", pkgPath := "", byteOffset := 16 }]),
    (25, Go.TypeDesc.func #[] #[4] false),
    (26, Go.TypeDesc.struct #[{ name := "X", type := 3, offset := 0, embedded := false, tag := "", pkgPath := "", byteOffset := 0 }, { name := "Y", type := 3, offset := 1, embedded := false, tag := "", pkgPath := "", byteOffset := 8 }]),
    (27, Go.TypeDesc.struct #[{ name := "X", type := 3, offset := 0, embedded := false, tag := "", pkgPath := "", byteOffset := 0 }, { name := "Y", type := 3, offset := 1, embedded := false, tag := "", pkgPath := "", byteOffset := 8 }]),
    (28, Go.TypeDesc.int (Go.IntKind.i64)),
    (29, Go.TypeDesc.tuple #[27, 28]),
    (30, Go.TypeDesc.func #[24, 3] #[27, 28] false),
    (31, Go.TypeDesc.tuple #[24, 28]),
    (32, Go.TypeDesc.func #[3] #[24, 28] false),
    (33, Go.TypeDesc.func #[3, 3, 3] #[4] false),
    (34, Go.TypeDesc.func #[24, 28, 28] #[4] false),
    (35, Go.TypeDesc.slice 4),
    (36, Go.TypeDesc.func #[24, 24] #[4] false),
    (37, Go.TypeDesc.func #[3, 3, 35] #[24] false),
    (38, Go.TypeDesc.func #[24] #[28] false),
    (39, Go.TypeDesc.func #[4, 28, 28] #[4] false),
    (40, Go.TypeDesc.func #[24] #[4] false),
    (41, Go.TypeDesc.func #[24, 3, 3] #[4] false),
    (42, Go.TypeDesc.func #[24, 3] #[4] false),
    (43, Go.TypeDesc.slice 48),
    (44, Go.TypeDesc.tuple #[43, 28]),
    (45, Go.TypeDesc.func #[3, 3, 3] #[43, 28] false),
    (46, Go.TypeDesc.func #[3, 3] #[3] false),
    (47, Go.TypeDesc.struct #[{ name := "X", type := 3, offset := 0, embedded := false, tag := "", pkgPath := "", byteOffset := 0 }, { name := "W", type := 3, offset := 1, embedded := false, tag := "", pkgPath := "", byteOffset := 8 }, { name := "Kind", type := 3, offset := 2, embedded := false, tag := "", pkgPath := "", byteOffset := 16 }, { name := "Unit", type := 3, offset := 3, embedded := false, tag := "", pkgPath := "", byteOffset := 24 }, { name := "Zone", type := 3, offset := 4, embedded := false, tag := "", pkgPath := "", byteOffset := 32 }]),
    (48, Go.TypeDesc.struct #[{ name := "X", type := 3, offset := 0, embedded := false, tag := "", pkgPath := "", byteOffset := 0 }, { name := "W", type := 3, offset := 1, embedded := false, tag := "", pkgPath := "", byteOffset := 8 }, { name := "Kind", type := 3, offset := 2, embedded := false, tag := "", pkgPath := "", byteOffset := 16 }, { name := "Unit", type := 3, offset := 3, embedded := false, tag := "", pkgPath := "", byteOffset := 24 }, { name := "Zone", type := 3, offset := 4, embedded := false, tag := "", pkgPath := "", byteOffset := 32 }]),
    (49, Go.TypeDesc.slice 53),
    (50, Go.TypeDesc.tuple #[49, 28]),
    (51, Go.TypeDesc.func #[43, 3, 3, 3] #[49, 28] false),
    (52, Go.TypeDesc.struct #[{ name := "W", type := 3, offset := 0, embedded := false, tag := "", pkgPath := "", byteOffset := 0 }, { name := "H", type := 3, offset := 1, embedded := false, tag := "", pkgPath := "", byteOffset := 8 }, { name := "Pix", type := 22, offset := 2, embedded := false, tag := "", pkgPath := "", byteOffset := 16 }]),
    (53, Go.TypeDesc.struct #[{ name := "W", type := 3, offset := 0, embedded := false, tag := "", pkgPath := "", byteOffset := 0 }, { name := "H", type := 3, offset := 1, embedded := false, tag := "", pkgPath := "", byteOffset := 8 }, { name := "Pix", type := 22, offset := 2, embedded := false, tag := "", pkgPath := "", byteOffset := 16 }]),
    (54, Go.TypeDesc.func #[3, 3, 3, 3] #[4] false),
    (55, Go.TypeDesc.slice 24),
    (56, Go.TypeDesc.slice 63),
    (57, Go.TypeDesc.tuple #[56, 28]),
    (58, Go.TypeDesc.func #[43, 55] #[56, 28] false),
    (59, Go.TypeDesc.func #[43, 3, 3] #[28] false),
    (60, Go.TypeDesc.array 2 3),
    (61, Go.TypeDesc.array 2 48),
    (62, Go.TypeDesc.struct #[{ name := "Unit", type := 3, offset := 0, embedded := false, tag := "", pkgPath := "", byteOffset := 0 }, { name := "Zone", type := 3, offset := 1, embedded := false, tag := "", pkgPath := "", byteOffset := 8 }, { name := "Solid", type := 3, offset := 2, embedded := false, tag := "", pkgPath := "", byteOffset := 16 }, { name := "Tint", type := 3, offset := 3, embedded := false, tag := "", pkgPath := "", byteOffset := 24 }]),
    (63, Go.TypeDesc.struct #[{ name := "Unit", type := 3, offset := 0, embedded := false, tag := "", pkgPath := "", byteOffset := 0 }, { name := "Zone", type := 3, offset := 1, embedded := false, tag := "", pkgPath := "", byteOffset := 8 }, { name := "Solid", type := 3, offset := 2, embedded := false, tag := "", pkgPath := "", byteOffset := 16 }, { name := "Tint", type := 3, offset := 3, embedded := false, tag := "", pkgPath := "", byteOffset := 24 }]),
    (64, Go.TypeDesc.func #[43, 55] #[4] false),
    (65, Go.TypeDesc.func #[24, 3] #[24, 28] false),
    (66, Go.TypeDesc.func #[24, 3] #[24] false),
    (67, Go.TypeDesc.func #[24, 3, 3, 3] #[4] false),
    (68, Go.TypeDesc.tuple #[4, 28]),
    (69, Go.TypeDesc.func #[24, 3, 3] #[4, 28] false),
    (70, Go.TypeDesc.func #[24, 3, 3, 4] #[24, 28] false),
    (71, Go.TypeDesc.tuple #[3, 28]),
    (72, Go.TypeDesc.func #[24] #[3, 28] false),
    (73, Go.TypeDesc.func #[24, 3, 3, 4] #[4] false),
    (74, Go.TypeDesc.slice 77),
    (75, Go.TypeDesc.func #[3, 3, 74] #[24, 28] false),
    (76, Go.TypeDesc.struct #[{ name := "Y", type := 3, offset := 0, embedded := false, tag := "", pkgPath := "", byteOffset := 0 }, { name := "X0", type := 3, offset := 1, embedded := false, tag := "", pkgPath := "", byteOffset := 8 }, { name := "X1", type := 3, offset := 2, embedded := false, tag := "", pkgPath := "", byteOffset := 16 }]),
    (77, Go.TypeDesc.struct #[{ name := "Y", type := 3, offset := 0, embedded := false, tag := "", pkgPath := "", byteOffset := 0 }, { name := "X0", type := 3, offset := 1, embedded := false, tag := "", pkgPath := "", byteOffset := 8 }, { name := "X1", type := 3, offset := 2, embedded := false, tag := "", pkgPath := "", byteOffset := 16 }]),
    (78, Go.TypeDesc.func #[3, 3, 74] #[4] false),
    (79, Go.TypeDesc.func #[24, 3, 3, 3, 3] #[24, 28] false),
    (80, Go.TypeDesc.func #[24, 3, 3] #[24, 28] false),
    (81, Go.TypeDesc.func #[24, 3, 3, 3, 3] #[4] false),
    (82, Go.TypeDesc.func #[53, 3] #[24, 28] false),
    (83, Go.TypeDesc.func #[53] #[28] false),
    (84, Go.TypeDesc.tuple #[53, 28]),
    (85, Go.TypeDesc.func #[24, 5] #[53, 28] false),
    (86, Go.TypeDesc.func #[53, 3, 5] #[4] false),
    (87, Go.TypeDesc.struct #[{ name := "W", type := 3, offset := 0, embedded := false, tag := "", pkgPath := "", byteOffset := 0 }, { name := "H", type := 3, offset := 1, embedded := false, tag := "", pkgPath := "", byteOffset := 8 }, { name := "Pix", type := 22, offset := 2, embedded := false, tag := "", pkgPath := "", byteOffset := 16 }]),
    (88, Go.TypeDesc.func #[87, 87, 3] #[3, 28] false),
    (89, Go.TypeDesc.func #[87] #[28] false),
    (90, Go.TypeDesc.func #[87, 87, 3] #[4] false),
    (91, Go.TypeDesc.slice 3),
    (92, Go.TypeDesc.slice 27),
    (93, Go.TypeDesc.tuple #[87, 28]),
    (94, Go.TypeDesc.func #[55, 91, 92] #[87, 28] false),
    (95, Go.TypeDesc.func #[87, 28, 28] #[4] false),
    (96, Go.TypeDesc.func #[87, 3] #[24, 28] false),
    (97, Go.TypeDesc.func #[55, 91, 92, 3] #[4] false),
    (98, Go.TypeDesc.slice 102),
    (99, Go.TypeDesc.tuple #[91, 28]),
    (100, Go.TypeDesc.func #[87, 3] #[91, 28] false),
    (101, Go.TypeDesc.struct #[{ name := "L", type := 3, offset := 0, embedded := false, tag := "", pkgPath := "", byteOffset := 0 }, { name := "A", type := 3, offset := 1, embedded := false, tag := "", pkgPath := "", byteOffset := 8 }, { name := "B", type := 3, offset := 2, embedded := false, tag := "", pkgPath := "", byteOffset := 16 }]),
    (102, Go.TypeDesc.struct #[{ name := "L", type := 3, offset := 0, embedded := false, tag := "", pkgPath := "", byteOffset := 0 }, { name := "A", type := 3, offset := 1, embedded := false, tag := "", pkgPath := "", byteOffset := 8 }, { name := "B", type := 3, offset := 2, embedded := false, tag := "", pkgPath := "", byteOffset := 16 }]),
    (103, Go.TypeDesc.tuple #[102, 28]),
    (104, Go.TypeDesc.func #[87, 98] #[102, 28] false),
    (105, Go.TypeDesc.func #[102] #[28] false),
    (106, Go.TypeDesc.func #[87, 3, 98] #[4] false),
    (107, Go.TypeDesc.func #[22, 22] #[4] false),
    (108, Go.TypeDesc.func #[109, 3, 3] #[4] false),
    (109, Go.TypeDesc.pointer 24),
    (110, Go.TypeDesc.func #[3, 3] #[24] false),
    (111, Go.TypeDesc.func #[109, 3, 3] #[] false),
    (112, Go.TypeDesc.func #[109, 48] #[3] false),
    (113, Go.TypeDesc.func #[] #[24] false),
    (114, Go.TypeDesc.tuple #[74, 28]),
    (115, Go.TypeDesc.func #[24] #[74, 28] false),
    (116, Go.TypeDesc.func #[109, 3] #[24] false),
    (117, Go.TypeDesc.func #[3] #[3] false),
    (118, Go.TypeDesc.func #[5] #[3] false),
    (119, Go.TypeDesc.func #[3, 3, 120] #[24] false),
    (120, Go.TypeDesc.func #[3, 3] #[4] false),
    (121, Go.TypeDesc.func #[109, 3, 3] #[24] false),
    (122, Go.TypeDesc.func #[130] #[] false),
    (123, Go.TypeDesc.func #[130] #[] false),
    (124, Go.TypeDesc.func #[109, 3] #[123] false),
    (125, Go.TypeDesc.func #[] #[55] false),
    (126, Go.TypeDesc.func #[91, 91] #[4] false),
    (127, Go.TypeDesc.func #[128, 3, 3, 3] #[4] false),
    (128, Go.TypeDesc.pointer 87),
    (129, Go.TypeDesc.func #[55, 91, 92] #[28] false),
    (130, Go.TypeDesc.func #[77] #[4] false),
    (131, Go.TypeDesc.func #[] #[9] false),
    (132, Go.TypeDesc.struct #[{ name := "_interface", type := 17, offset := 0, embedded := false, tag := "", pkgPath := "runtime", byteOffset := 0 }, { name := "concrete", type := 17, offset := 1, embedded := false, tag := "", pkgPath := "runtime", byteOffset := 8 }, { name := "asserted", type := 17, offset := 2, embedded := false, tag := "", pkgPath := "runtime", byteOffset := 16 }, { name := "missingMethod", type := 9, offset := 3, embedded := false, tag := "", pkgPath := "runtime", byteOffset := 24 }]),
    (133, Go.TypeDesc.struct #[{ name := "_interface", type := 17, offset := 0, embedded := false, tag := "", pkgPath := "runtime", byteOffset := 0 }, { name := "concrete", type := 17, offset := 1, embedded := false, tag := "", pkgPath := "runtime", byteOffset := 8 }, { name := "asserted", type := 17, offset := 2, embedded := false, tag := "", pkgPath := "runtime", byteOffset := 16 }, { name := "missingMethod", type := 9, offset := 3, embedded := false, tag := "", pkgPath := "runtime", byteOffset := 24 }]),
    (134, Go.TypeDesc.array 0 16),
    (135, Go.TypeDesc.struct #[{ name := "_", type := 134, offset := 0, embedded := false, tag := "", pkgPath := "runtime", byteOffset := 0 }]),
    (136, Go.TypeDesc.struct #[{ name := "_", type := 134, offset := 0, embedded := false, tag := "", pkgPath := "runtime", byteOffset := 0 }]),
    (137, Go.TypeDesc.func #[] #[3] false),
    (138, Go.TypeDesc.int (Go.IntKind.u32)),
    (139, Go.TypeDesc.int (Go.IntKind.u8)),
    (140, Go.TypeDesc.int (Go.IntKind.u8)),
    (141, Go.TypeDesc.func #[147, 147] #[4] false),
    (142, Go.TypeDesc.pointer 5),
    (143, Go.TypeDesc.int (Go.IntKind.i32)),
    (144, Go.TypeDesc.int (Go.IntKind.i32)),
    (145, Go.TypeDesc.struct #[{ name := "Size_", type := 12, offset := 0, embedded := false, tag := "", pkgPath := "", byteOffset := 0 }, { name := "PtrBytes", type := 12, offset := 1, embedded := false, tag := "", pkgPath := "", byteOffset := 8 }, { name := "Hash", type := 138, offset := 2, embedded := false, tag := "", pkgPath := "", byteOffset := 16 }, { name := "TFlag", type := 139, offset := 3, embedded := false, tag := "", pkgPath := "", byteOffset := 20 }, { name := "Align_", type := 5, offset := 4, embedded := false, tag := "", pkgPath := "", byteOffset := 21 }, { name := "FieldAlign_", type := 5, offset := 5, embedded := false, tag := "", pkgPath := "", byteOffset := 22 }, { name := "Kind_", type := 140, offset := 6, embedded := false, tag := "", pkgPath := "", byteOffset := 23 }, { name := "Equal", type := 141, offset := 7, embedded := false, tag := "", pkgPath := "", byteOffset := 24 }, { name := "GCData", type := 142, offset := 8, embedded := false, tag := "", pkgPath := "", byteOffset := 32 }, { name := "Str", type := 143, offset := 9, embedded := false, tag := "", pkgPath := "", byteOffset := 40 }, { name := "PtrToThis", type := 144, offset := 10, embedded := false, tag := "", pkgPath := "", byteOffset := 44 }]),
    (146, Go.TypeDesc.struct #[{ name := "Size_", type := 12, offset := 0, embedded := false, tag := "", pkgPath := "", byteOffset := 0 }, { name := "PtrBytes", type := 12, offset := 1, embedded := false, tag := "", pkgPath := "", byteOffset := 8 }, { name := "Hash", type := 138, offset := 2, embedded := false, tag := "", pkgPath := "", byteOffset := 16 }, { name := "TFlag", type := 139, offset := 3, embedded := false, tag := "", pkgPath := "", byteOffset := 20 }, { name := "Align_", type := 5, offset := 4, embedded := false, tag := "", pkgPath := "", byteOffset := 21 }, { name := "FieldAlign_", type := 5, offset := 5, embedded := false, tag := "", pkgPath := "", byteOffset := 22 }, { name := "Kind_", type := 140, offset := 6, embedded := false, tag := "", pkgPath := "", byteOffset := 23 }, { name := "Equal", type := 141, offset := 7, embedded := false, tag := "", pkgPath := "", byteOffset := 24 }, { name := "GCData", type := 142, offset := 8, embedded := false, tag := "", pkgPath := "", byteOffset := 32 }, { name := "Str", type := 143, offset := 9, embedded := false, tag := "", pkgPath := "", byteOffset := 40 }, { name := "PtrToThis", type := 144, offset := 10, embedded := false, tag := "", pkgPath := "", byteOffset := 44 }]),
    (147, Go.TypeDesc.unsafePointer)],
  inf := [(1, (some (.nilFunc), 1, 8)),
    (2, (some (.int .i64 0), 1, 8)),
    (3, (some (.int .i64 0), 1, 8)),
    (4, (some (.bool false), 1, 1)),
    (5, (some (.int .u8 0), 1, 1)),
    (6, (some (.int .u8 0), 1, 1)),
    (7, (some (.agg #[.int .i64 0, .int .i64 0, .bool false, .int .u8 0]), 4, 24)),
    (8, (some (.agg #[.int .i64 0, .int .i64 0, .bool false, .int .u8 0]), 4, 24)),
    (9, (some (.string ByteArray.empty), 1, 16)),
    (10, (some (.string ByteArray.empty), 1, 16)),
    (11, (some (.string ByteArray.empty), 1, 16)),
    (12, (some (.int .u64 0), 1, 8)),
    (13, (some (.agg #[.string ByteArray.empty, .int .u64 0]), 2, 24)),
    (14, (some (.agg #[.string ByteArray.empty, .int .u64 0]), 2, 24)),
    (15, (some (.pointer none), 1, 8)),
    (16, (some (.pointer none), 1, 8)),
    (17, (some (.pointer none), 1, 8)),
    (18, (some (.agg #[.pointer none]), 1, 8)),
    (19, (some (.agg #[.pointer none]), 1, 8)),
    (20, (some (.nilIface), 1, 16)),
    (21, (some (.int .i32 0), 1, 4)),
    (22, (some (.slice none 0 0), 1, 24)),
    (23, (some (.agg #[.int .i64 0, .int .i64 0, .slice none 0 0]), 3, 40)),
    (24, (some (.agg #[.int .i64 0, .int .i64 0, .slice none 0 0]), 3, 40)),
    (25, (some (.nilFunc), 1, 8)),
    (26, (some (.agg #[.int .i64 0, .int .i64 0]), 2, 16)),
    (27, (some (.agg #[.int .i64 0, .int .i64 0]), 2, 16)),
    (28, (some (.int .i64 0), 1, 8)),
    (30, (some (.nilFunc), 1, 8)),
    (32, (some (.nilFunc), 1, 8)),
    (33, (some (.nilFunc), 1, 8)),
    (34, (some (.nilFunc), 1, 8)),
    (35, (some (.slice none 0 0), 1, 24)),
    (36, (some (.nilFunc), 1, 8)),
    (37, (some (.nilFunc), 1, 8)),
    (38, (some (.nilFunc), 1, 8)),
    (39, (some (.nilFunc), 1, 8)),
    (40, (some (.nilFunc), 1, 8)),
    (41, (some (.nilFunc), 1, 8)),
    (42, (some (.nilFunc), 1, 8)),
    (43, (some (.slice none 0 0), 1, 24)),
    (45, (some (.nilFunc), 1, 8)),
    (46, (some (.nilFunc), 1, 8)),
    (47, (some (.agg #[.int .i64 0, .int .i64 0, .int .i64 0, .int .i64 0, .int .i64 0]), 5, 40)),
    (48, (some (.agg #[.int .i64 0, .int .i64 0, .int .i64 0, .int .i64 0, .int .i64 0]), 5, 40)),
    (49, (some (.slice none 0 0), 1, 24)),
    (51, (some (.nilFunc), 1, 8)),
    (52, (some (.agg #[.int .i64 0, .int .i64 0, .slice none 0 0]), 3, 40)),
    (53, (some (.agg #[.int .i64 0, .int .i64 0, .slice none 0 0]), 3, 40)),
    (54, (some (.nilFunc), 1, 8)),
    (55, (some (.slice none 0 0), 1, 24)),
    (56, (some (.slice none 0 0), 1, 24)),
    (58, (some (.nilFunc), 1, 8)),
    (59, (some (.nilFunc), 1, 8)),
    (60, (some (.agg #[.int .i64 0, .int .i64 0]), 2, 16)),
    (61, (some (.agg #[.int .i64 0, .int .i64 0, .int .i64 0, .int .i64 0, .int .i64 0, .int .i64 0, .int .i64 0, .int .i64 0, .int .i64 0, .int .i64 0]), 10, 80)),
    (62, (some (.agg #[.int .i64 0, .int .i64 0, .int .i64 0, .int .i64 0]), 4, 32)),
    (63, (some (.agg #[.int .i64 0, .int .i64 0, .int .i64 0, .int .i64 0]), 4, 32)),
    (64, (some (.nilFunc), 1, 8)),
    (65, (some (.nilFunc), 1, 8)),
    (66, (some (.nilFunc), 1, 8)),
    (67, (some (.nilFunc), 1, 8)),
    (69, (some (.nilFunc), 1, 8)),
    (70, (some (.nilFunc), 1, 8)),
    (72, (some (.nilFunc), 1, 8)),
    (73, (some (.nilFunc), 1, 8)),
    (74, (some (.slice none 0 0), 1, 24)),
    (75, (some (.nilFunc), 1, 8)),
    (76, (some (.agg #[.int .i64 0, .int .i64 0, .int .i64 0]), 3, 24)),
    (77, (some (.agg #[.int .i64 0, .int .i64 0, .int .i64 0]), 3, 24)),
    (78, (some (.nilFunc), 1, 8)),
    (79, (some (.nilFunc), 1, 8)),
    (80, (some (.nilFunc), 1, 8)),
    (81, (some (.nilFunc), 1, 8)),
    (82, (some (.nilFunc), 1, 8)),
    (83, (some (.nilFunc), 1, 8)),
    (85, (some (.nilFunc), 1, 8)),
    (86, (some (.nilFunc), 1, 8)),
    (87, (some (.agg #[.int .i64 0, .int .i64 0, .slice none 0 0]), 3, 40)),
    (88, (some (.nilFunc), 1, 8)),
    (89, (some (.nilFunc), 1, 8)),
    (90, (some (.nilFunc), 1, 8)),
    (91, (some (.slice none 0 0), 1, 24)),
    (92, (some (.slice none 0 0), 1, 24)),
    (94, (some (.nilFunc), 1, 8)),
    (95, (some (.nilFunc), 1, 8)),
    (96, (some (.nilFunc), 1, 8)),
    (97, (some (.nilFunc), 1, 8)),
    (98, (some (.slice none 0 0), 1, 24)),
    (100, (some (.nilFunc), 1, 8)),
    (101, (some (.agg #[.int .i64 0, .int .i64 0, .int .i64 0]), 3, 24)),
    (102, (some (.agg #[.int .i64 0, .int .i64 0, .int .i64 0]), 3, 24)),
    (104, (some (.nilFunc), 1, 8)),
    (105, (some (.nilFunc), 1, 8)),
    (106, (some (.nilFunc), 1, 8)),
    (107, (some (.nilFunc), 1, 8)),
    (108, (some (.nilFunc), 1, 8)),
    (109, (some (.pointer none), 1, 8)),
    (110, (some (.nilFunc), 1, 8)),
    (111, (some (.nilFunc), 1, 8)),
    (112, (some (.nilFunc), 1, 8)),
    (113, (some (.nilFunc), 1, 8)),
    (115, (some (.nilFunc), 1, 8)),
    (116, (some (.nilFunc), 1, 8)),
    (117, (some (.nilFunc), 1, 8)),
    (118, (some (.nilFunc), 1, 8)),
    (119, (some (.nilFunc), 1, 8)),
    (120, (some (.nilFunc), 1, 8)),
    (121, (some (.nilFunc), 1, 8)),
    (122, (some (.nilFunc), 1, 8)),
    (123, (some (.nilFunc), 1, 8)),
    (124, (some (.nilFunc), 1, 8)),
    (125, (some (.nilFunc), 1, 8)),
    (126, (some (.nilFunc), 1, 8)),
    (127, (some (.nilFunc), 1, 8)),
    (128, (some (.pointer none), 1, 8)),
    (129, (some (.nilFunc), 1, 8)),
    (130, (some (.nilFunc), 1, 8)),
    (131, (some (.nilFunc), 1, 8)),
    (132, (some (.agg #[.pointer none, .pointer none, .pointer none, .string ByteArray.empty]), 4, 40)),
    (133, (some (.agg #[.pointer none, .pointer none, .pointer none, .string ByteArray.empty]), 4, 40)),
    (134, (some (.agg #[]), 0, 0)),
    (135, (some (.agg #[]), 0, 0)),
    (136, (some (.agg #[]), 0, 0)),
    (137, (some (.nilFunc), 1, 8)),
    (138, (some (.int .u32 0), 1, 4)),
    (139, (some (.int .u8 0), 1, 1)),
    (140, (some (.int .u8 0), 1, 1)),
    (141, (some (.nilFunc), 1, 8)),
    (142, (some (.pointer none), 1, 8)),
    (143, (some (.int .i32 0), 1, 4)),
    (144, (some (.int .i32 0), 1, 4)),
    (145, (some (.agg #[.int .u64 0, .int .u64 0, .int .u32 0, .int .u8 0, .int .u8 0, .int .u8 0, .int .u8 0, .nilFunc, .pointer none, .int .i32 0, .int .i32 0]), 11, 48)),
    (146, (some (.agg #[.int .u64 0, .int .u64 0, .int .u32 0, .int .u8 0, .int .u8 0, .int .u8 0, .int .u8 0, .nilFunc, .pointer none, .int .i32 0, .int .i32 0]), 11, 48)),
    (147, (some (.pointer none), 1, 8))],
  fld := [(7, [(0, (1, false)), (1, (1, false)), (2, (1, false)), (3, (1, false))]),
    (8, [(0, (1, false)), (1, (1, false)), (2, (1, false)), (3, (1, false))]),
    (13, [(0, (1, false)), (1, (1, false))]),
    (14, [(0, (1, false)), (1, (1, false))]),
    (18, [(0, (1, false))]),
    (19, [(0, (1, false))]),
    (23, [(0, (1, false)), (1, (1, false)), (2, (1, false))]),
    (24, [(0, (1, false)), (1, (1, false)), (2, (1, false))]),
    (26, [(0, (1, false)), (1, (1, false))]),
    (27, [(0, (1, false)), (1, (1, false))]),
    (47, [(0, (1, false)), (1, (1, false)), (2, (1, false)), (3, (1, false)), (4, (1, false))]),
    (48, [(0, (1, false)), (1, (1, false)), (2, (1, false)), (3, (1, false)), (4, (1, false))]),
    (52, [(0, (1, false)), (1, (1, false)), (2, (1, false))]),
    (53, [(0, (1, false)), (1, (1, false)), (2, (1, false))]),
    (62, [(0, (1, false)), (1, (1, false)), (2, (1, false)), (3, (1, false))]),
    (63, [(0, (1, false)), (1, (1, false)), (2, (1, false)), (3, (1, false))]),
    (76, [(0, (1, false)), (1, (1, false)), (2, (1, false))]),
    (77, [(0, (1, false)), (1, (1, false)), (2, (1, false))]),
    (87, [(0, (1, false)), (1, (1, false)), (2, (1, false))]),
    (101, [(0, (1, false)), (1, (1, false)), (2, (1, false))]),
    (102, [(0, (1, false)), (1, (1, false)), (2, (1, false))]),
    (132, [(0, (1, false)), (1, (1, false)), (2, (1, false)), (3, (1, false))]),
    (133, [(0, (1, false)), (1, (1, false)), (2, (1, false)), (3, (1, false))]),
    (135, [(0, (0, true))]),
    (136, [(0, (0, true))]),
    (145, [(0, (1, false)), (1, (1, false)), (2, (1, false)), (3, (1, false)), (4, (1, false)), (5, (1, false)), (6, (1, false)), (7, (1, false)), (8, (1, false)), (9, (1, false)), (10, (1, false))]),
    (146, [(0, (1, false)), (1, (1, false)), (2, (1, false)), (3, (1, false)), (4, (1, false)), (5, (1, false)), (6, (1, false)), (7, (1, false)), (8, (1, false)), (9, (1, false)), (10, (1, false))])],
  eqs := [(26, 2), (27, 2), (47, 5), (48, 5), (62, 4), (63, 4), (76, 3), (77, 3), (101, 3), (102, 3)] }
theorem ty_1 : tyI Try.prog 1 = some (some (.nilFunc), 1, 8) := by kernel_rfl
theorem ty_2 : tyI Try.prog 2 = some (some (.int .i64 0), 1, 8) := by kernel_rfl
theorem ty_3 : tyI Try.prog 3 = some (some (.int .i64 0), 1, 8) := by kernel_rfl
theorem ty_4 : tyI Try.prog 4 = some (some (.bool false), 1, 1) := by kernel_rfl
theorem ty_5 : tyI Try.prog 5 = some (some (.int .u8 0), 1, 1) := by kernel_rfl
theorem ty_6 : tyI Try.prog 6 = some (some (.int .u8 0), 1, 1) := by kernel_rfl
theorem ty_7 : tyI Try.prog 7 = some (some (.agg #[.int .i64 0, .int .i64 0, .bool false, .int .u8 0]), 4, 24) := by kernel_rfl
theorem ty_8 : tyI Try.prog 8 = some (some (.agg #[.int .i64 0, .int .i64 0, .bool false, .int .u8 0]), 4, 24) := by kernel_rfl
theorem ty_9 : tyI Try.prog 9 = some (some (.string ByteArray.empty), 1, 16) := by kernel_rfl
theorem ty_10 : tyI Try.prog 10 = some (some (.string ByteArray.empty), 1, 16) := by kernel_rfl
theorem ty_11 : tyI Try.prog 11 = some (some (.string ByteArray.empty), 1, 16) := by kernel_rfl
theorem ty_12 : tyI Try.prog 12 = some (some (.int .u64 0), 1, 8) := by kernel_rfl
theorem ty_13 : tyI Try.prog 13 = some (some (.agg #[.string ByteArray.empty, .int .u64 0]), 2, 24) := by kernel_rfl
theorem ty_14 : tyI Try.prog 14 = some (some (.agg #[.string ByteArray.empty, .int .u64 0]), 2, 24) := by kernel_rfl
theorem ty_15 : tyI Try.prog 15 = some (some (.pointer none), 1, 8) := by kernel_rfl
theorem ty_16 : tyI Try.prog 16 = some (some (.pointer none), 1, 8) := by kernel_rfl
theorem ty_17 : tyI Try.prog 17 = some (some (.pointer none), 1, 8) := by kernel_rfl
theorem ty_18 : tyI Try.prog 18 = some (some (.agg #[.pointer none]), 1, 8) := by kernel_rfl
theorem ty_19 : tyI Try.prog 19 = some (some (.agg #[.pointer none]), 1, 8) := by kernel_rfl
theorem ty_20 : tyI Try.prog 20 = some (some (.nilIface), 1, 16) := by kernel_rfl
theorem ty_21 : tyI Try.prog 21 = some (some (.int .i32 0), 1, 4) := by kernel_rfl
theorem ty_22 : tyI Try.prog 22 = some (some (.slice none 0 0), 1, 24) := by kernel_rfl
theorem ty_23 : tyI Try.prog 23 = some (some (.agg #[.int .i64 0, .int .i64 0, .slice none 0 0]), 3, 40) := by kernel_rfl
theorem ty_24 : tyI Try.prog 24 = some (some (.agg #[.int .i64 0, .int .i64 0, .slice none 0 0]), 3, 40) := by kernel_rfl
theorem ty_25 : tyI Try.prog 25 = some (some (.nilFunc), 1, 8) := by kernel_rfl
theorem ty_26 : tyI Try.prog 26 = some (some (.agg #[.int .i64 0, .int .i64 0]), 2, 16) := by kernel_rfl
theorem ty_27 : tyI Try.prog 27 = some (some (.agg #[.int .i64 0, .int .i64 0]), 2, 16) := by kernel_rfl
theorem ty_28 : tyI Try.prog 28 = some (some (.int .i64 0), 1, 8) := by kernel_rfl
theorem ty_30 : tyI Try.prog 30 = some (some (.nilFunc), 1, 8) := by kernel_rfl
theorem ty_32 : tyI Try.prog 32 = some (some (.nilFunc), 1, 8) := by kernel_rfl
theorem ty_33 : tyI Try.prog 33 = some (some (.nilFunc), 1, 8) := by kernel_rfl
theorem ty_34 : tyI Try.prog 34 = some (some (.nilFunc), 1, 8) := by kernel_rfl
theorem ty_35 : tyI Try.prog 35 = some (some (.slice none 0 0), 1, 24) := by kernel_rfl
theorem ty_36 : tyI Try.prog 36 = some (some (.nilFunc), 1, 8) := by kernel_rfl
theorem ty_37 : tyI Try.prog 37 = some (some (.nilFunc), 1, 8) := by kernel_rfl
theorem ty_38 : tyI Try.prog 38 = some (some (.nilFunc), 1, 8) := by kernel_rfl
theorem ty_39 : tyI Try.prog 39 = some (some (.nilFunc), 1, 8) := by kernel_rfl
theorem ty_40 : tyI Try.prog 40 = some (some (.nilFunc), 1, 8) := by kernel_rfl
theorem ty_41 : tyI Try.prog 41 = some (some (.nilFunc), 1, 8) := by kernel_rfl
theorem ty_42 : tyI Try.prog 42 = some (some (.nilFunc), 1, 8) := by kernel_rfl
theorem ty_43 : tyI Try.prog 43 = some (some (.slice none 0 0), 1, 24) := by kernel_rfl
theorem ty_45 : tyI Try.prog 45 = some (some (.nilFunc), 1, 8) := by kernel_rfl
theorem ty_46 : tyI Try.prog 46 = some (some (.nilFunc), 1, 8) := by kernel_rfl
theorem ty_47 : tyI Try.prog 47 = some (some (.agg #[.int .i64 0, .int .i64 0, .int .i64 0, .int .i64 0, .int .i64 0]), 5, 40) := by kernel_rfl
theorem ty_48 : tyI Try.prog 48 = some (some (.agg #[.int .i64 0, .int .i64 0, .int .i64 0, .int .i64 0, .int .i64 0]), 5, 40) := by kernel_rfl
theorem ty_49 : tyI Try.prog 49 = some (some (.slice none 0 0), 1, 24) := by kernel_rfl
theorem ty_51 : tyI Try.prog 51 = some (some (.nilFunc), 1, 8) := by kernel_rfl
theorem ty_52 : tyI Try.prog 52 = some (some (.agg #[.int .i64 0, .int .i64 0, .slice none 0 0]), 3, 40) := by kernel_rfl
theorem ty_53 : tyI Try.prog 53 = some (some (.agg #[.int .i64 0, .int .i64 0, .slice none 0 0]), 3, 40) := by kernel_rfl
theorem ty_54 : tyI Try.prog 54 = some (some (.nilFunc), 1, 8) := by kernel_rfl
theorem ty_55 : tyI Try.prog 55 = some (some (.slice none 0 0), 1, 24) := by kernel_rfl
theorem ty_56 : tyI Try.prog 56 = some (some (.slice none 0 0), 1, 24) := by kernel_rfl
theorem ty_58 : tyI Try.prog 58 = some (some (.nilFunc), 1, 8) := by kernel_rfl
theorem ty_59 : tyI Try.prog 59 = some (some (.nilFunc), 1, 8) := by kernel_rfl
theorem ty_60 : tyI Try.prog 60 = some (some (.agg #[.int .i64 0, .int .i64 0]), 2, 16) := by kernel_rfl
theorem ty_61 : tyI Try.prog 61 = some (some (.agg #[.int .i64 0, .int .i64 0, .int .i64 0, .int .i64 0, .int .i64 0, .int .i64 0, .int .i64 0, .int .i64 0, .int .i64 0, .int .i64 0]), 10, 80) := by kernel_rfl
theorem ty_62 : tyI Try.prog 62 = some (some (.agg #[.int .i64 0, .int .i64 0, .int .i64 0, .int .i64 0]), 4, 32) := by kernel_rfl
theorem ty_63 : tyI Try.prog 63 = some (some (.agg #[.int .i64 0, .int .i64 0, .int .i64 0, .int .i64 0]), 4, 32) := by kernel_rfl
theorem ty_64 : tyI Try.prog 64 = some (some (.nilFunc), 1, 8) := by kernel_rfl
theorem ty_65 : tyI Try.prog 65 = some (some (.nilFunc), 1, 8) := by kernel_rfl
theorem ty_66 : tyI Try.prog 66 = some (some (.nilFunc), 1, 8) := by kernel_rfl
theorem ty_67 : tyI Try.prog 67 = some (some (.nilFunc), 1, 8) := by kernel_rfl
theorem ty_69 : tyI Try.prog 69 = some (some (.nilFunc), 1, 8) := by kernel_rfl
theorem ty_70 : tyI Try.prog 70 = some (some (.nilFunc), 1, 8) := by kernel_rfl
theorem ty_72 : tyI Try.prog 72 = some (some (.nilFunc), 1, 8) := by kernel_rfl
theorem ty_73 : tyI Try.prog 73 = some (some (.nilFunc), 1, 8) := by kernel_rfl
theorem ty_74 : tyI Try.prog 74 = some (some (.slice none 0 0), 1, 24) := by kernel_rfl
theorem ty_75 : tyI Try.prog 75 = some (some (.nilFunc), 1, 8) := by kernel_rfl
theorem ty_76 : tyI Try.prog 76 = some (some (.agg #[.int .i64 0, .int .i64 0, .int .i64 0]), 3, 24) := by kernel_rfl
theorem ty_77 : tyI Try.prog 77 = some (some (.agg #[.int .i64 0, .int .i64 0, .int .i64 0]), 3, 24) := by kernel_rfl
theorem ty_78 : tyI Try.prog 78 = some (some (.nilFunc), 1, 8) := by kernel_rfl
theorem ty_79 : tyI Try.prog 79 = some (some (.nilFunc), 1, 8) := by kernel_rfl
theorem ty_80 : tyI Try.prog 80 = some (some (.nilFunc), 1, 8) := by kernel_rfl
theorem ty_81 : tyI Try.prog 81 = some (some (.nilFunc), 1, 8) := by kernel_rfl
theorem ty_82 : tyI Try.prog 82 = some (some (.nilFunc), 1, 8) := by kernel_rfl
theorem ty_83 : tyI Try.prog 83 = some (some (.nilFunc), 1, 8) := by kernel_rfl
theorem ty_85 : tyI Try.prog 85 = some (some (.nilFunc), 1, 8) := by kernel_rfl
theorem ty_86 : tyI Try.prog 86 = some (some (.nilFunc), 1, 8) := by kernel_rfl
theorem ty_87 : tyI Try.prog 87 = some (some (.agg #[.int .i64 0, .int .i64 0, .slice none 0 0]), 3, 40) := by kernel_rfl
theorem ty_88 : tyI Try.prog 88 = some (some (.nilFunc), 1, 8) := by kernel_rfl
theorem ty_89 : tyI Try.prog 89 = some (some (.nilFunc), 1, 8) := by kernel_rfl
theorem ty_90 : tyI Try.prog 90 = some (some (.nilFunc), 1, 8) := by kernel_rfl
theorem ty_91 : tyI Try.prog 91 = some (some (.slice none 0 0), 1, 24) := by kernel_rfl
theorem ty_92 : tyI Try.prog 92 = some (some (.slice none 0 0), 1, 24) := by kernel_rfl
theorem ty_94 : tyI Try.prog 94 = some (some (.nilFunc), 1, 8) := by kernel_rfl
theorem ty_95 : tyI Try.prog 95 = some (some (.nilFunc), 1, 8) := by kernel_rfl
theorem ty_96 : tyI Try.prog 96 = some (some (.nilFunc), 1, 8) := by kernel_rfl
theorem ty_97 : tyI Try.prog 97 = some (some (.nilFunc), 1, 8) := by kernel_rfl
theorem ty_98 : tyI Try.prog 98 = some (some (.slice none 0 0), 1, 24) := by kernel_rfl
theorem ty_100 : tyI Try.prog 100 = some (some (.nilFunc), 1, 8) := by kernel_rfl
theorem ty_101 : tyI Try.prog 101 = some (some (.agg #[.int .i64 0, .int .i64 0, .int .i64 0]), 3, 24) := by kernel_rfl
theorem ty_102 : tyI Try.prog 102 = some (some (.agg #[.int .i64 0, .int .i64 0, .int .i64 0]), 3, 24) := by kernel_rfl
theorem ty_104 : tyI Try.prog 104 = some (some (.nilFunc), 1, 8) := by kernel_rfl
theorem ty_105 : tyI Try.prog 105 = some (some (.nilFunc), 1, 8) := by kernel_rfl
theorem ty_106 : tyI Try.prog 106 = some (some (.nilFunc), 1, 8) := by kernel_rfl
theorem ty_107 : tyI Try.prog 107 = some (some (.nilFunc), 1, 8) := by kernel_rfl
theorem ty_108 : tyI Try.prog 108 = some (some (.nilFunc), 1, 8) := by kernel_rfl
theorem ty_109 : tyI Try.prog 109 = some (some (.pointer none), 1, 8) := by kernel_rfl
theorem ty_110 : tyI Try.prog 110 = some (some (.nilFunc), 1, 8) := by kernel_rfl
theorem ty_111 : tyI Try.prog 111 = some (some (.nilFunc), 1, 8) := by kernel_rfl
theorem ty_112 : tyI Try.prog 112 = some (some (.nilFunc), 1, 8) := by kernel_rfl
theorem ty_113 : tyI Try.prog 113 = some (some (.nilFunc), 1, 8) := by kernel_rfl
theorem ty_115 : tyI Try.prog 115 = some (some (.nilFunc), 1, 8) := by kernel_rfl
theorem ty_116 : tyI Try.prog 116 = some (some (.nilFunc), 1, 8) := by kernel_rfl
theorem ty_117 : tyI Try.prog 117 = some (some (.nilFunc), 1, 8) := by kernel_rfl
theorem ty_118 : tyI Try.prog 118 = some (some (.nilFunc), 1, 8) := by kernel_rfl
theorem ty_119 : tyI Try.prog 119 = some (some (.nilFunc), 1, 8) := by kernel_rfl
theorem ty_120 : tyI Try.prog 120 = some (some (.nilFunc), 1, 8) := by kernel_rfl
theorem ty_121 : tyI Try.prog 121 = some (some (.nilFunc), 1, 8) := by kernel_rfl
theorem ty_122 : tyI Try.prog 122 = some (some (.nilFunc), 1, 8) := by kernel_rfl
theorem ty_123 : tyI Try.prog 123 = some (some (.nilFunc), 1, 8) := by kernel_rfl
theorem ty_124 : tyI Try.prog 124 = some (some (.nilFunc), 1, 8) := by kernel_rfl
theorem ty_125 : tyI Try.prog 125 = some (some (.nilFunc), 1, 8) := by kernel_rfl
theorem ty_126 : tyI Try.prog 126 = some (some (.nilFunc), 1, 8) := by kernel_rfl
theorem ty_127 : tyI Try.prog 127 = some (some (.nilFunc), 1, 8) := by kernel_rfl
theorem ty_128 : tyI Try.prog 128 = some (some (.pointer none), 1, 8) := by kernel_rfl
theorem ty_129 : tyI Try.prog 129 = some (some (.nilFunc), 1, 8) := by kernel_rfl
theorem ty_130 : tyI Try.prog 130 = some (some (.nilFunc), 1, 8) := by kernel_rfl
theorem ty_131 : tyI Try.prog 131 = some (some (.nilFunc), 1, 8) := by kernel_rfl
theorem ty_132 : tyI Try.prog 132 = some (some (.agg #[.pointer none, .pointer none, .pointer none, .string ByteArray.empty]), 4, 40) := by kernel_rfl
theorem ty_133 : tyI Try.prog 133 = some (some (.agg #[.pointer none, .pointer none, .pointer none, .string ByteArray.empty]), 4, 40) := by kernel_rfl
theorem ty_134 : tyI Try.prog 134 = some (some (.agg #[]), 0, 0) := by kernel_rfl
theorem ty_135 : tyI Try.prog 135 = some (some (.agg #[]), 0, 0) := by kernel_rfl
theorem ty_136 : tyI Try.prog 136 = some (some (.agg #[]), 0, 0) := by kernel_rfl
theorem ty_137 : tyI Try.prog 137 = some (some (.nilFunc), 1, 8) := by kernel_rfl
theorem ty_138 : tyI Try.prog 138 = some (some (.int .u32 0), 1, 4) := by kernel_rfl
theorem ty_139 : tyI Try.prog 139 = some (some (.int .u8 0), 1, 1) := by kernel_rfl
theorem ty_140 : tyI Try.prog 140 = some (some (.int .u8 0), 1, 1) := by kernel_rfl
theorem ty_141 : tyI Try.prog 141 = some (some (.nilFunc), 1, 8) := by kernel_rfl
theorem ty_142 : tyI Try.prog 142 = some (some (.pointer none), 1, 8) := by kernel_rfl
theorem ty_143 : tyI Try.prog 143 = some (some (.int .i32 0), 1, 4) := by kernel_rfl
theorem ty_144 : tyI Try.prog 144 = some (some (.int .i32 0), 1, 4) := by kernel_rfl
theorem ty_145 : tyI Try.prog 145 = some (some (.agg #[.int .u64 0, .int .u64 0, .int .u32 0, .int .u8 0, .int .u8 0, .int .u8 0, .int .u8 0, .nilFunc, .pointer none, .int .i32 0, .int .i32 0]), 11, 48) := by kernel_rfl
theorem ty_146 : tyI Try.prog 146 = some (some (.agg #[.int .u64 0, .int .u64 0, .int .u32 0, .int .u8 0, .int .u8 0, .int .u8 0, .int .u8 0, .nilFunc, .pointer none, .int .i32 0, .int .i32 0]), 11, 48) := by kernel_rfl
theorem ty_147 : tyI Try.prog 147 = some (some (.pointer none), 1, 8) := by kernel_rfl
theorem fl_7 : fieldsP Try.prog 7 = some [(0, (1, false)), (1, (1, false)), (2, (1, false)), (3, (1, false))] := by kernel_rfl
theorem fl_8 : fieldsP Try.prog 8 = some [(0, (1, false)), (1, (1, false)), (2, (1, false)), (3, (1, false))] := by kernel_rfl
theorem fl_13 : fieldsP Try.prog 13 = some [(0, (1, false)), (1, (1, false))] := by kernel_rfl
theorem fl_14 : fieldsP Try.prog 14 = some [(0, (1, false)), (1, (1, false))] := by kernel_rfl
theorem fl_18 : fieldsP Try.prog 18 = some [(0, (1, false))] := by kernel_rfl
theorem fl_19 : fieldsP Try.prog 19 = some [(0, (1, false))] := by kernel_rfl
theorem fl_23 : fieldsP Try.prog 23 = some [(0, (1, false)), (1, (1, false)), (2, (1, false))] := by kernel_rfl
theorem fl_24 : fieldsP Try.prog 24 = some [(0, (1, false)), (1, (1, false)), (2, (1, false))] := by kernel_rfl
theorem fl_26 : fieldsP Try.prog 26 = some [(0, (1, false)), (1, (1, false))] := by kernel_rfl
theorem fl_27 : fieldsP Try.prog 27 = some [(0, (1, false)), (1, (1, false))] := by kernel_rfl
theorem fl_47 : fieldsP Try.prog 47 = some [(0, (1, false)), (1, (1, false)), (2, (1, false)), (3, (1, false)), (4, (1, false))] := by kernel_rfl
theorem fl_48 : fieldsP Try.prog 48 = some [(0, (1, false)), (1, (1, false)), (2, (1, false)), (3, (1, false)), (4, (1, false))] := by kernel_rfl
theorem fl_52 : fieldsP Try.prog 52 = some [(0, (1, false)), (1, (1, false)), (2, (1, false))] := by kernel_rfl
theorem fl_53 : fieldsP Try.prog 53 = some [(0, (1, false)), (1, (1, false)), (2, (1, false))] := by kernel_rfl
theorem fl_62 : fieldsP Try.prog 62 = some [(0, (1, false)), (1, (1, false)), (2, (1, false)), (3, (1, false))] := by kernel_rfl
theorem fl_63 : fieldsP Try.prog 63 = some [(0, (1, false)), (1, (1, false)), (2, (1, false)), (3, (1, false))] := by kernel_rfl
theorem fl_76 : fieldsP Try.prog 76 = some [(0, (1, false)), (1, (1, false)), (2, (1, false))] := by kernel_rfl
theorem fl_77 : fieldsP Try.prog 77 = some [(0, (1, false)), (1, (1, false)), (2, (1, false))] := by kernel_rfl
theorem fl_87 : fieldsP Try.prog 87 = some [(0, (1, false)), (1, (1, false)), (2, (1, false))] := by kernel_rfl
theorem fl_101 : fieldsP Try.prog 101 = some [(0, (1, false)), (1, (1, false)), (2, (1, false))] := by kernel_rfl
theorem fl_102 : fieldsP Try.prog 102 = some [(0, (1, false)), (1, (1, false)), (2, (1, false))] := by kernel_rfl
theorem fl_132 : fieldsP Try.prog 132 = some [(0, (1, false)), (1, (1, false)), (2, (1, false)), (3, (1, false))] := by kernel_rfl
theorem fl_133 : fieldsP Try.prog 133 = some [(0, (1, false)), (1, (1, false)), (2, (1, false)), (3, (1, false))] := by kernel_rfl
theorem fl_135 : fieldsP Try.prog 135 = some [(0, (0, true))] := by kernel_rfl
theorem fl_136 : fieldsP Try.prog 136 = some [(0, (0, true))] := by kernel_rfl
theorem fl_145 : fieldsP Try.prog 145 = some [(0, (1, false)), (1, (1, false)), (2, (1, false)), (3, (1, false)), (4, (1, false)), (5, (1, false)), (6, (1, false)), (7, (1, false)), (8, (1, false)), (9, (1, false)), (10, (1, false))] := by kernel_rfl
theorem fl_146 : fieldsP Try.prog 146 = some [(0, (1, false)), (1, (1, false)), (2, (1, false)), (3, (1, false)), (4, (1, false)), (5, (1, false)), (6, (1, false)), (7, (1, false)), (8, (1, false)), (9, (1, false)), (10, (1, false))] := by kernel_rfl
theorem eq_26 : eqInts Try.prog 26 = true ∧ (match Try.prog.underlying 26 with | some (.struct fs) => fs.size | _ => 0) = 2 := ⟨by kernel_rfl, by rw [Try.underlying26]; rfl⟩
theorem eq_27 : eqInts Try.prog 27 = true ∧ (match Try.prog.underlying 27 with | some (.struct fs) => fs.size | _ => 0) = 2 := ⟨by kernel_rfl, by rw [Try.underlying27]; rfl⟩
theorem eq_47 : eqInts Try.prog 47 = true ∧ (match Try.prog.underlying 47 with | some (.struct fs) => fs.size | _ => 0) = 5 := ⟨by kernel_rfl, by rw [Try.underlying47]; rfl⟩
theorem eq_48 : eqInts Try.prog 48 = true ∧ (match Try.prog.underlying 48 with | some (.struct fs) => fs.size | _ => 0) = 5 := ⟨by kernel_rfl, by rw [Try.underlying48]; rfl⟩
theorem eq_62 : eqInts Try.prog 62 = true ∧ (match Try.prog.underlying 62 with | some (.struct fs) => fs.size | _ => 0) = 4 := ⟨by kernel_rfl, by rw [Try.underlying62]; rfl⟩
theorem eq_63 : eqInts Try.prog 63 = true ∧ (match Try.prog.underlying 63 with | some (.struct fs) => fs.size | _ => 0) = 4 := ⟨by kernel_rfl, by rw [Try.underlying63]; rfl⟩
theorem eq_76 : eqInts Try.prog 76 = true ∧ (match Try.prog.underlying 76 with | some (.struct fs) => fs.size | _ => 0) = 3 := ⟨by kernel_rfl, by rw [Try.underlying76]; rfl⟩
theorem eq_77 : eqInts Try.prog 77 = true ∧ (match Try.prog.underlying 77 with | some (.struct fs) => fs.size | _ => 0) = 3 := ⟨by kernel_rfl, by rw [Try.underlying77]; rfl⟩
theorem eq_101 : eqInts Try.prog 101 = true ∧ (match Try.prog.underlying 101 with | some (.struct fs) => fs.size | _ => 0) = 3 := ⟨by kernel_rfl, by rw [Try.underlying101]; rfl⟩
theorem eq_102 : eqInts Try.prog 102 = true ∧ (match Try.prog.underlying 102 with | some (.struct fs) => fs.size | _ => 0) = 3 := ⟨by kernel_rfl, by rw [Try.underlying102]; rfl⟩
theorem tab_und : allP (fun k D => Try.prog.underlying k = some D) tab.und := ⟨Try.underlying0, ⟨Try.underlying1, ⟨Try.underlying2, ⟨Try.underlying3, ⟨Try.underlying4, ⟨Try.underlying5, ⟨Try.underlying6, ⟨Try.underlying7, ⟨Try.underlying8, ⟨Try.underlying9, ⟨Try.underlying10, ⟨Try.underlying11, ⟨Try.underlying12, ⟨Try.underlying13, ⟨Try.underlying14, ⟨Try.underlying15, ⟨Try.underlying16, ⟨Try.underlying17, ⟨Try.underlying18, ⟨Try.underlying19, ⟨Try.underlying20, ⟨Try.underlying21, ⟨Try.underlying22, ⟨Try.underlying23, ⟨Try.underlying24, ⟨Try.underlying25, ⟨Try.underlying26, ⟨Try.underlying27, ⟨Try.underlying28, ⟨Try.underlying29, ⟨Try.underlying30, ⟨Try.underlying31, ⟨Try.underlying32, ⟨Try.underlying33, ⟨Try.underlying34, ⟨Try.underlying35, ⟨Try.underlying36, ⟨Try.underlying37, ⟨Try.underlying38, ⟨Try.underlying39, ⟨Try.underlying40, ⟨Try.underlying41, ⟨Try.underlying42, ⟨Try.underlying43, ⟨Try.underlying44, ⟨Try.underlying45, ⟨Try.underlying46, ⟨Try.underlying47, ⟨Try.underlying48, ⟨Try.underlying49, ⟨Try.underlying50, ⟨Try.underlying51, ⟨Try.underlying52, ⟨Try.underlying53, ⟨Try.underlying54, ⟨Try.underlying55, ⟨Try.underlying56, ⟨Try.underlying57, ⟨Try.underlying58, ⟨Try.underlying59, ⟨Try.underlying60, ⟨Try.underlying61, ⟨Try.underlying62, ⟨Try.underlying63, ⟨Try.underlying64, ⟨Try.underlying65, ⟨Try.underlying66, ⟨Try.underlying67, ⟨Try.underlying68, ⟨Try.underlying69, ⟨Try.underlying70, ⟨Try.underlying71, ⟨Try.underlying72, ⟨Try.underlying73, ⟨Try.underlying74, ⟨Try.underlying75, ⟨Try.underlying76, ⟨Try.underlying77, ⟨Try.underlying78, ⟨Try.underlying79, ⟨Try.underlying80, ⟨Try.underlying81, ⟨Try.underlying82, ⟨Try.underlying83, ⟨Try.underlying84, ⟨Try.underlying85, ⟨Try.underlying86, ⟨Try.underlying87, ⟨Try.underlying88, ⟨Try.underlying89, ⟨Try.underlying90, ⟨Try.underlying91, ⟨Try.underlying92, ⟨Try.underlying93, ⟨Try.underlying94, ⟨Try.underlying95, ⟨Try.underlying96, ⟨Try.underlying97, ⟨Try.underlying98, ⟨Try.underlying99, ⟨Try.underlying100, ⟨Try.underlying101, ⟨Try.underlying102, ⟨Try.underlying103, ⟨Try.underlying104, ⟨Try.underlying105, ⟨Try.underlying106, ⟨Try.underlying107, ⟨Try.underlying108, ⟨Try.underlying109, ⟨Try.underlying110, ⟨Try.underlying111, ⟨Try.underlying112, ⟨Try.underlying113, ⟨Try.underlying114, ⟨Try.underlying115, ⟨Try.underlying116, ⟨Try.underlying117, ⟨Try.underlying118, ⟨Try.underlying119, ⟨Try.underlying120, ⟨Try.underlying121, ⟨Try.underlying122, ⟨Try.underlying123, ⟨Try.underlying124, ⟨Try.underlying125, ⟨Try.underlying126, ⟨Try.underlying127, ⟨Try.underlying128, ⟨Try.underlying129, ⟨Try.underlying130, ⟨Try.underlying131, ⟨Try.underlying132, ⟨Try.underlying133, ⟨Try.underlying134, ⟨Try.underlying135, ⟨Try.underlying136, ⟨Try.underlying137, ⟨Try.underlying138, ⟨Try.underlying139, ⟨Try.underlying140, ⟨Try.underlying141, ⟨Try.underlying142, ⟨Try.underlying143, ⟨Try.underlying144, ⟨Try.underlying145, ⟨Try.underlying146, ⟨Try.underlying147, trivial⟩⟩⟩⟩⟩⟩⟩⟩⟩⟩⟩⟩⟩⟩⟩⟩⟩⟩⟩⟩⟩⟩⟩⟩⟩⟩⟩⟩⟩⟩⟩⟩⟩⟩⟩⟩⟩⟩⟩⟩⟩⟩⟩⟩⟩⟩⟩⟩⟩⟩⟩⟩⟩⟩⟩⟩⟩⟩⟩⟩⟩⟩⟩⟩⟩⟩⟩⟩⟩⟩⟩⟩⟩⟩⟩⟩⟩⟩⟩⟩⟩⟩⟩⟩⟩⟩⟩⟩⟩⟩⟩⟩⟩⟩⟩⟩⟩⟩⟩⟩⟩⟩⟩⟩⟩⟩⟩⟩⟩⟩⟩⟩⟩⟩⟩⟩⟩⟩⟩⟩⟩⟩⟩⟩⟩⟩⟩⟩⟩⟩⟩⟩⟩⟩⟩⟩⟩⟩⟩⟩⟩⟩⟩⟩⟩⟩⟩⟩
theorem tab_inf : allP (fun k x => tyI Try.prog k = some x) tab.inf := ⟨ty_1, ⟨ty_2, ⟨ty_3, ⟨ty_4, ⟨ty_5, ⟨ty_6, ⟨ty_7, ⟨ty_8, ⟨ty_9, ⟨ty_10, ⟨ty_11, ⟨ty_12, ⟨ty_13, ⟨ty_14, ⟨ty_15, ⟨ty_16, ⟨ty_17, ⟨ty_18, ⟨ty_19, ⟨ty_20, ⟨ty_21, ⟨ty_22, ⟨ty_23, ⟨ty_24, ⟨ty_25, ⟨ty_26, ⟨ty_27, ⟨ty_28, ⟨ty_30, ⟨ty_32, ⟨ty_33, ⟨ty_34, ⟨ty_35, ⟨ty_36, ⟨ty_37, ⟨ty_38, ⟨ty_39, ⟨ty_40, ⟨ty_41, ⟨ty_42, ⟨ty_43, ⟨ty_45, ⟨ty_46, ⟨ty_47, ⟨ty_48, ⟨ty_49, ⟨ty_51, ⟨ty_52, ⟨ty_53, ⟨ty_54, ⟨ty_55, ⟨ty_56, ⟨ty_58, ⟨ty_59, ⟨ty_60, ⟨ty_61, ⟨ty_62, ⟨ty_63, ⟨ty_64, ⟨ty_65, ⟨ty_66, ⟨ty_67, ⟨ty_69, ⟨ty_70, ⟨ty_72, ⟨ty_73, ⟨ty_74, ⟨ty_75, ⟨ty_76, ⟨ty_77, ⟨ty_78, ⟨ty_79, ⟨ty_80, ⟨ty_81, ⟨ty_82, ⟨ty_83, ⟨ty_85, ⟨ty_86, ⟨ty_87, ⟨ty_88, ⟨ty_89, ⟨ty_90, ⟨ty_91, ⟨ty_92, ⟨ty_94, ⟨ty_95, ⟨ty_96, ⟨ty_97, ⟨ty_98, ⟨ty_100, ⟨ty_101, ⟨ty_102, ⟨ty_104, ⟨ty_105, ⟨ty_106, ⟨ty_107, ⟨ty_108, ⟨ty_109, ⟨ty_110, ⟨ty_111, ⟨ty_112, ⟨ty_113, ⟨ty_115, ⟨ty_116, ⟨ty_117, ⟨ty_118, ⟨ty_119, ⟨ty_120, ⟨ty_121, ⟨ty_122, ⟨ty_123, ⟨ty_124, ⟨ty_125, ⟨ty_126, ⟨ty_127, ⟨ty_128, ⟨ty_129, ⟨ty_130, ⟨ty_131, ⟨ty_132, ⟨ty_133, ⟨ty_134, ⟨ty_135, ⟨ty_136, ⟨ty_137, ⟨ty_138, ⟨ty_139, ⟨ty_140, ⟨ty_141, ⟨ty_142, ⟨ty_143, ⟨ty_144, ⟨ty_145, ⟨ty_146, ⟨ty_147, trivial⟩⟩⟩⟩⟩⟩⟩⟩⟩⟩⟩⟩⟩⟩⟩⟩⟩⟩⟩⟩⟩⟩⟩⟩⟩⟩⟩⟩⟩⟩⟩⟩⟩⟩⟩⟩⟩⟩⟩⟩⟩⟩⟩⟩⟩⟩⟩⟩⟩⟩⟩⟩⟩⟩⟩⟩⟩⟩⟩⟩⟩⟩⟩⟩⟩⟩⟩⟩⟩⟩⟩⟩⟩⟩⟩⟩⟩⟩⟩⟩⟩⟩⟩⟩⟩⟩⟩⟩⟩⟩⟩⟩⟩⟩⟩⟩⟩⟩⟩⟩⟩⟩⟩⟩⟩⟩⟩⟩⟩⟩⟩⟩⟩⟩⟩⟩⟩⟩⟩⟩⟩⟩⟩⟩⟩⟩⟩⟩⟩⟩⟩⟩⟩⟩⟩
theorem tab_fld : allP (fun k x => fieldsP Try.prog k = some x) tab.fld := ⟨fl_7, ⟨fl_8, ⟨fl_13, ⟨fl_14, ⟨fl_18, ⟨fl_19, ⟨fl_23, ⟨fl_24, ⟨fl_26, ⟨fl_27, ⟨fl_47, ⟨fl_48, ⟨fl_52, ⟨fl_53, ⟨fl_62, ⟨fl_63, ⟨fl_76, ⟨fl_77, ⟨fl_87, ⟨fl_101, ⟨fl_102, ⟨fl_132, ⟨fl_133, ⟨fl_135, ⟨fl_136, ⟨fl_145, ⟨fl_146, trivial⟩⟩⟩⟩⟩⟩⟩⟩⟩⟩⟩⟩⟩⟩⟩⟩⟩⟩⟩⟩⟩⟩⟩⟩⟩⟩⟩
set_option maxRecDepth 100000 in
theorem tab_eqs : allP (fun k L => eqInts Try.prog k = true ∧ (match Try.prog.underlying k with | some (.struct fs) => fs.size | _ => 0) = L) tab.eqs := ⟨eq_26, ⟨eq_27, ⟨eq_47, ⟨eq_48, ⟨eq_62, ⟨eq_63, ⟨eq_76, ⟨eq_77, ⟨eq_101, ⟨eq_102, trivial⟩⟩⟩⟩⟩⟩⟩⟩⟩⟩
set_option maxRecDepth 100000 in
theorem tab_ok : tab.ok Try.prog := ⟨tab_und, tab_inf, tab_fld, tab_eqs⟩
theorem und_of {k : Nat} {D : TypeDesc} (h : lk tab.und k = some D) : Try.prog.underlying k = some D := allP_at tab_und h
theorem tyi_of {k : Nat} {x : Option Value × Nat × Nat} (h : lk tab.inf k = some x) : tyI Try.prog k = some x := allP_at tab_inf h
def cas : List (Nat × Nat) := [(2, 0), (3, 0), (4, 0), (5, 0), (6, 0), (7, 0), (8, 0), (9, 0), (10, 0), (11, 0), (12, 0), (13, 0), (14, 0), (15, 0), (16, 0), (17, 0), (18, 0), (19, 0), (20, 0), (21, 0), (22, 0), (23, 0), (24, 0), (25, 0), (26, 0), (27, 0), (28, 0), (29, 0), (30, 0), (31, 0), (32, 0), (33, 0), (34, 0), (35, 0), (36, 0), (37, 0), (38, 0), (39, 0), (40, 0), (41, 0), (42, 0), (43, 0), (44, 0), (45, 0), (46, 0), (47, 0), (48, 0), (49, 0), (50, 0), (51, 0), (52, 0), (53, 0), (54, 0), (55, 0), (56, 0), (57, 0), (58, 0), (59, 0), (60, 0), (61, 0), (62, 0), (63, 0), (64, 0), (65, 0), (66, 0), (67, 0), (68, 0), (69, 0), (70, 0), (71, 0), (72, 0), (73, 0), (74, 0), (75, 0), (76, 0), (77, 0), (78, 0), (79, 0), (80, 0), (81, 0), (82, 0), (83, 0), (84, 0), (85, 0), (86, 0), (87, 0)]
theorem ca_2 : callable Try.prog 2 = true := by kernel_rfl
theorem ca_3 : callable Try.prog 3 = true := by kernel_rfl
theorem ca_4 : callable Try.prog 4 = true := by kernel_rfl
theorem ca_5 : callable Try.prog 5 = true := by kernel_rfl
theorem ca_6 : callable Try.prog 6 = true := by kernel_rfl
theorem ca_7 : callable Try.prog 7 = true := by kernel_rfl
theorem ca_8 : callable Try.prog 8 = true := by kernel_rfl
theorem ca_9 : callable Try.prog 9 = true := by kernel_rfl
theorem ca_10 : callable Try.prog 10 = true := by kernel_rfl
theorem ca_11 : callable Try.prog 11 = true := by kernel_rfl
theorem ca_12 : callable Try.prog 12 = true := by kernel_rfl
theorem ca_13 : callable Try.prog 13 = true := by kernel_rfl
theorem ca_14 : callable Try.prog 14 = true := by kernel_rfl
theorem ca_15 : callable Try.prog 15 = true := by kernel_rfl
theorem ca_16 : callable Try.prog 16 = true := by kernel_rfl
theorem ca_17 : callable Try.prog 17 = true := by kernel_rfl
theorem ca_18 : callable Try.prog 18 = true := by kernel_rfl
theorem ca_19 : callable Try.prog 19 = true := by kernel_rfl
theorem ca_20 : callable Try.prog 20 = true := by kernel_rfl
theorem ca_21 : callable Try.prog 21 = true := by kernel_rfl
theorem ca_22 : callable Try.prog 22 = true := by kernel_rfl
theorem ca_23 : callable Try.prog 23 = true := by kernel_rfl
theorem ca_24 : callable Try.prog 24 = true := by kernel_rfl
theorem ca_25 : callable Try.prog 25 = true := by kernel_rfl
theorem ca_26 : callable Try.prog 26 = true := by kernel_rfl
theorem ca_27 : callable Try.prog 27 = true := by kernel_rfl
theorem ca_28 : callable Try.prog 28 = true := by kernel_rfl
theorem ca_29 : callable Try.prog 29 = true := by kernel_rfl
theorem ca_30 : callable Try.prog 30 = true := by kernel_rfl
theorem ca_31 : callable Try.prog 31 = true := by kernel_rfl
theorem ca_32 : callable Try.prog 32 = true := by kernel_rfl
theorem ca_33 : callable Try.prog 33 = true := by kernel_rfl
theorem ca_34 : callable Try.prog 34 = true := by kernel_rfl
theorem ca_35 : callable Try.prog 35 = true := by kernel_rfl
theorem ca_36 : callable Try.prog 36 = true := by kernel_rfl
theorem ca_37 : callable Try.prog 37 = true := by kernel_rfl
theorem ca_38 : callable Try.prog 38 = true := by kernel_rfl
theorem ca_39 : callable Try.prog 39 = true := by kernel_rfl
theorem ca_40 : callable Try.prog 40 = true := by kernel_rfl
theorem ca_41 : callable Try.prog 41 = true := by kernel_rfl
theorem ca_42 : callable Try.prog 42 = true := by kernel_rfl
theorem ca_43 : callable Try.prog 43 = true := by kernel_rfl
theorem ca_44 : callable Try.prog 44 = true := by kernel_rfl
theorem ca_45 : callable Try.prog 45 = true := by kernel_rfl
theorem ca_46 : callable Try.prog 46 = true := by kernel_rfl
theorem ca_47 : callable Try.prog 47 = true := by kernel_rfl
theorem ca_48 : callable Try.prog 48 = true := by kernel_rfl
theorem ca_49 : callable Try.prog 49 = true := by kernel_rfl
theorem ca_50 : callable Try.prog 50 = true := by kernel_rfl
theorem ca_51 : callable Try.prog 51 = true := by kernel_rfl
theorem ca_52 : callable Try.prog 52 = true := by kernel_rfl
theorem ca_53 : callable Try.prog 53 = true := by kernel_rfl
theorem ca_54 : callable Try.prog 54 = true := by kernel_rfl
theorem ca_55 : callable Try.prog 55 = true := by kernel_rfl
theorem ca_56 : callable Try.prog 56 = true := by kernel_rfl
theorem ca_57 : callable Try.prog 57 = true := by kernel_rfl
theorem ca_58 : callable Try.prog 58 = true := by kernel_rfl
theorem ca_59 : callable Try.prog 59 = true := by kernel_rfl
theorem ca_60 : callable Try.prog 60 = true := by kernel_rfl
theorem ca_61 : callable Try.prog 61 = true := by kernel_rfl
theorem ca_62 : callable Try.prog 62 = true := by kernel_rfl
theorem ca_63 : callable Try.prog 63 = true := by kernel_rfl
theorem ca_64 : callable Try.prog 64 = true := by kernel_rfl
theorem ca_65 : callable Try.prog 65 = true := by kernel_rfl
theorem ca_66 : callable Try.prog 66 = true := by kernel_rfl
theorem ca_67 : callable Try.prog 67 = true := by kernel_rfl
theorem ca_68 : callable Try.prog 68 = true := by kernel_rfl
theorem ca_69 : callable Try.prog 69 = true := by kernel_rfl
theorem ca_70 : callable Try.prog 70 = true := by kernel_rfl
theorem ca_71 : callable Try.prog 71 = true := by kernel_rfl
theorem ca_72 : callable Try.prog 72 = true := by kernel_rfl
theorem ca_73 : callable Try.prog 73 = true := by kernel_rfl
theorem ca_74 : callable Try.prog 74 = true := by kernel_rfl
theorem ca_75 : callable Try.prog 75 = true := by kernel_rfl
theorem ca_76 : callable Try.prog 76 = true := by kernel_rfl
theorem ca_77 : callable Try.prog 77 = true := by kernel_rfl
theorem ca_78 : callable Try.prog 78 = true := by kernel_rfl
theorem ca_79 : callable Try.prog 79 = true := by kernel_rfl
theorem ca_80 : callable Try.prog 80 = true := by kernel_rfl
theorem ca_81 : callable Try.prog 81 = true := by kernel_rfl
theorem ca_82 : callable Try.prog 82 = true := by kernel_rfl
theorem ca_83 : callable Try.prog 83 = true := by kernel_rfl
theorem ca_84 : callable Try.prog 84 = true := by kernel_rfl
theorem ca_85 : callable Try.prog 85 = true := by kernel_rfl
theorem ca_86 : callable Try.prog 86 = true := by kernel_rfl
theorem ca_87 : callable Try.prog 87 = true := by kernel_rfl
theorem cas_ok : allP (fun k _ => callable Try.prog k = true) cas := ⟨ca_2, ⟨ca_3, ⟨ca_4, ⟨ca_5, ⟨ca_6, ⟨ca_7, ⟨ca_8, ⟨ca_9, ⟨ca_10, ⟨ca_11, ⟨ca_12, ⟨ca_13, ⟨ca_14, ⟨ca_15, ⟨ca_16, ⟨ca_17, ⟨ca_18, ⟨ca_19, ⟨ca_20, ⟨ca_21, ⟨ca_22, ⟨ca_23, ⟨ca_24, ⟨ca_25, ⟨ca_26, ⟨ca_27, ⟨ca_28, ⟨ca_29, ⟨ca_30, ⟨ca_31, ⟨ca_32, ⟨ca_33, ⟨ca_34, ⟨ca_35, ⟨ca_36, ⟨ca_37, ⟨ca_38, ⟨ca_39, ⟨ca_40, ⟨ca_41, ⟨ca_42, ⟨ca_43, ⟨ca_44, ⟨ca_45, ⟨ca_46, ⟨ca_47, ⟨ca_48, ⟨ca_49, ⟨ca_50, ⟨ca_51, ⟨ca_52, ⟨ca_53, ⟨ca_54, ⟨ca_55, ⟨ca_56, ⟨ca_57, ⟨ca_58, ⟨ca_59, ⟨ca_60, ⟨ca_61, ⟨ca_62, ⟨ca_63, ⟨ca_64, ⟨ca_65, ⟨ca_66, ⟨ca_67, ⟨ca_68, ⟨ca_69, ⟨ca_70, ⟨ca_71, ⟨ca_72, ⟨ca_73, ⟨ca_74, ⟨ca_75, ⟨ca_76, ⟨ca_77, ⟨ca_78, ⟨ca_79, ⟨ca_80, ⟨ca_81, ⟨ca_82, ⟨ca_83, ⟨ca_84, ⟨ca_85, ⟨ca_86, ⟨ca_87, trivial⟩⟩⟩⟩⟩⟩⟩⟩⟩⟩⟩⟩⟩⟩⟩⟩⟩⟩⟩⟩⟩⟩⟩⟩⟩⟩⟩⟩⟩⟩⟩⟩⟩⟩⟩⟩⟩⟩⟩⟩⟩⟩⟩⟩⟩⟩⟩⟩⟩⟩⟩⟩⟩⟩⟩⟩⟩⟩⟩⟩⟩⟩⟩⟩⟩⟩⟩⟩⟩⟩⟩⟩⟩⟩⟩⟩⟩⟩⟩⟩⟩⟩⟩⟩⟩⟩
theorem ca_of {k x : Nat} (h : lk cas k = some x) : callable Try.prog k = true := allP_at cas_ok h
end Go.Proofs.Ytnbmldnahacnlaa
/- What a run of the abstract machine asks of the program (printed by a program). -/
namespace Go.Proofs.Ytnbmldnahacnlaa
open Go
noncomputable def ctx : Ctx := ⟨tab, [(2, Try.f2), (3, Try.f3), (4, Try.f4), (5, Try.f5), (6, Try.f6), (7, Try.f7), (8, Try.f8), (9, Try.f9), (10, Try.f10), (11, Try.f11), (12, Try.f12), (13, Try.f13), (14, Try.f14), (15, Try.f15), (16, Try.f16), (17, Try.f17), (18, Try.f18), (19, Try.f19), (20, Try.f20), (21, Try.f21), (22, Try.f22), (23, Try.f23), (24, Try.f24), (25, Try.f25), (26, Try.f26), (27, Try.f27), (28, Try.f28), (29, Try.f29), (30, Try.f30), (31, Try.f31), (32, Try.f32), (33, Try.f33), (34, Try.f34), (35, Try.f35), (36, Try.f36), (37, Try.f37), (38, Try.f38), (39, Try.f39), (40, Try.f40), (41, Try.f41), (42, Try.f42), (43, Try.f43), (44, Try.f44), (45, Try.f45), (46, Try.f46), (47, Try.f47), (48, Try.f48), (49, Try.f49), (50, Try.f50), (51, Try.f51), (52, Try.f52), (53, Try.f53), (54, Try.f54), (55, Try.f55), (56, Try.f56), (57, Try.f57), (58, Try.f58), (59, Try.f59), (60, Try.f60), (61, Try.f61), (62, Try.f62), (63, Try.f63), (64, Try.f64), (65, Try.f65), (66, Try.f66), (67, Try.f67), (68, Try.f68), (69, Try.f69), (70, Try.f70), (71, Try.f71), (72, Try.f72), (73, Try.f73), (74, Try.f74), (75, Try.f75), (76, Try.f76), (77, Try.f77), (78, Try.f78), (79, Try.f79), (80, Try.f80), (81, Try.f81), (82, Try.f82), (83, Try.f83), (84, Try.f84), (85, Try.f85), (86, Try.f86), (87, Try.f87)], cas⟩
set_option maxRecDepth 100000 in
theorem fns_ok : allP (fun k f => Try.prog.funcs[k]? = some f) ctx.fns := ⟨Try.func2, ⟨Try.func3, ⟨Try.func4, ⟨Try.func5, ⟨Try.func6, ⟨Try.func7, ⟨Try.func8, ⟨Try.func9, ⟨Try.func10, ⟨Try.func11, ⟨Try.func12, ⟨Try.func13, ⟨Try.func14, ⟨Try.func15, ⟨Try.func16, ⟨Try.func17, ⟨Try.func18, ⟨Try.func19, ⟨Try.func20, ⟨Try.func21, ⟨Try.func22, ⟨Try.func23, ⟨Try.func24, ⟨Try.func25, ⟨Try.func26, ⟨Try.func27, ⟨Try.func28, ⟨Try.func29, ⟨Try.func30, ⟨Try.func31, ⟨Try.func32, ⟨Try.func33, ⟨Try.func34, ⟨Try.func35, ⟨Try.func36, ⟨Try.func37, ⟨Try.func38, ⟨Try.func39, ⟨Try.func40, ⟨Try.func41, ⟨Try.func42, ⟨Try.func43, ⟨Try.func44, ⟨Try.func45, ⟨Try.func46, ⟨Try.func47, ⟨Try.func48, ⟨Try.func49, ⟨Try.func50, ⟨Try.func51, ⟨Try.func52, ⟨Try.func53, ⟨Try.func54, ⟨Try.func55, ⟨Try.func56, ⟨Try.func57, ⟨Try.func58, ⟨Try.func59, ⟨Try.func60, ⟨Try.func61, ⟨Try.func62, ⟨Try.func63, ⟨Try.func64, ⟨Try.func65, ⟨Try.func66, ⟨Try.func67, ⟨Try.func68, ⟨Try.func69, ⟨Try.func70, ⟨Try.func71, ⟨Try.func72, ⟨Try.func73, ⟨Try.func74, ⟨Try.func75, ⟨Try.func76, ⟨Try.func77, ⟨Try.func78, ⟨Try.func79, ⟨Try.func80, ⟨Try.func81, ⟨Try.func82, ⟨Try.func83, ⟨Try.func84, ⟨Try.func85, ⟨Try.func86, ⟨Try.func87, trivial⟩⟩⟩⟩⟩⟩⟩⟩⟩⟩⟩⟩⟩⟩⟩⟩⟩⟩⟩⟩⟩⟩⟩⟩⟩⟩⟩⟩⟩⟩⟩⟩⟩⟩⟩⟩⟩⟩⟩⟩⟩⟩⟩⟩⟩⟩⟩⟩⟩⟩⟩⟩⟩⟩⟩⟩⟩⟩⟩⟩⟩⟩⟩⟩⟩⟩⟩⟩⟩⟩⟩⟩⟩⟩⟩⟩⟩⟩⟩⟩⟩⟩⟩⟩⟩⟩
theorem ctx_ok : ctx.ok Try.prog := ⟨tab_ok, fns_ok, cas_ok, by kernel_rfl⟩
end Go.Proofs.Ytnbmldnahacnlaa
/- Decompiling: the program's functions as the machine over terms takes them. -/
namespace Go.Proofs.Ytnbmldnahacnlaa
open Go Go.RowKit
noncomputable def dc (l : List (Nat × Ctr)) : DC := ⟨tab, ctx.fns, ctx.cas, l⟩
theorem dc_ok {l : List (Nat × Ctr)} (h : allP (CtrOk Try.prog) l) : (dc l).ok Try.prog := ⟨ctx_ok.T, ctx_ok.fns, ctx_ok.cas, ctx_ok.mixed, h⟩
theorem ctr_ok {l : List (Nat × Ctr)} (hl : allP (CtrOk Try.prog) l) {f : Nat} {an : An} {Fn : Nat} {σ ρ : Ty} {g : Nat → σ.den → Option ρ.den} (h : ∀ fu x, (topG (ρ := ρ) (dc l) (drR (dc l)) f an Fn σ (.var x)).den fu = g fu x) : CtrOk Try.prog Fn ⟨σ, ρ, g, Fn⟩ :=
  fun fu x _ hy => topG_ok (dc_ok hl) (fun _ _ hS => drR_ok (dc_ok hl) hS) ((h fu x).trans hy)
end Go.Proofs.Ytnbmldnahacnlaa
/- sheetWorks returns true. -/
namespace Go.Proofs.Ytnbmldnahacnlaa
open Go Go.RowKit

theorem sheetWorks_f : AF Try.prog 48 [] (.bool true) := AF.run ctx_ok 1000 20 (by kernel_rfl)
def law_sheetWorks_r (_ : Nat) (_ : Unit) : Option (Bool × Unit) := some (true, ())
def law_sheetWorks_ctr : Ctr := ⟨.unit, .pair .bool .unit, law_sheetWorks_r, 48⟩
theorem law_sheetWorks_ok : CtrOk Try.prog 48 law_sheetWorks_ctr := fun _ _ y h => by
  have h : some (true, ()) = some y := h
  injection h with h
  subst h
  exact sheetWorks_f
end Go.Proofs.Ytnbmldnahacnlaa
/- Residual programs of functions (printed by a program out of the code), checked by the kernel, and the contracts that follow. -/
namespace Go.Proofs.Ytnbmldnahacnlaa
open Go Go.RowKit
set_option linter.unusedVariables false
def R_Floor_j1 (fu : Nat) (v1 : Int) : Option ((Int) × (Unit)) :=
  some ((v1, ()))
def R_Floor_r (fu : Nat) (a : (Int) × ((Int) × (Unit))) : Option ((Int) × (Unit)) :=
  bif (decide (a.2.1 ≠ (0 : Int))) then
  let v0 : Int := (IntKind.i64.wrap (Int.tdiv a.1 a.2.1))
  joinF (R_Floor_j1 fu) fun j1 =>
  bif (decide (a.1 < (IntKind.i64.wrap (v0 * a.2.1)))) then
    let v2 : Int := (IntKind.i64.wrap (v0 - (1 : Int)))
    j1 (v2)
  else
  j1 (v0)
  else none
def R_Floor_an : An := (.n none .z (.n none .z (.n (some ⟨[4], [], [], [.reg 5 (.int .i64)], 0, []⟩) (.n none .z (.n none .z .z)) (.n none .z .z))))
noncomputable def R_Floor_dc : List (Nat × Ctr) := []
def R_Floor_ctr : Ctr := ⟨(.pair (.int .i64) (.pair (.int .i64) .unit)), (.pair (.int .i64) .unit), R_Floor_r, 26⟩
theorem R_Floor_ok : CtrOk Try.prog 26 R_Floor_ctr := ctr_ok (l := R_Floor_dc) (f := 12) (an := R_Floor_an) trivial fun fu x => by kernel_rfl
def R_Round_j1 (fu : Nat) (v2 : Int) : Option ((Int) × (Unit)) :=
  some ((v2, ()))
def R_Round_r (fu : Nat) (a : (Int) × ((Int) × (Unit))) : Option ((Int) × (Unit)) :=
  bindO (R_Floor_r fu ((a.1, (a.2.1, ())))) fun v0 =>
  let v1 : Int := v0.1
  joinF (R_Round_j1 fu) fun j2 =>
  bif (decide (a.2.1 ≤ (IntKind.i64.wrap ((2 : Int) * (IntKind.i64.wrap (a.1 - (IntKind.i64.wrap (v1 * a.2.1)))))))) then
    let v3 : Int := (IntKind.i64.wrap (v1 + (1 : Int)))
    j2 (v3)
  else
  j2 (v1)
def R_Round_an : An := (.n none .z (.n none .z (.n (some ⟨[4], [], [], [.reg 5 (.int .i64)], 0, []⟩) (.n none .z (.n none .z .z)) (.n none .z .z))))
noncomputable def R_Round_dc : List (Nat × Ctr) := [(26, R_Floor_ctr)]
def R_Round_ctr : Ctr := ⟨(.pair (.int .i64) (.pair (.int .i64) .unit)), (.pair (.int .i64) .unit), R_Round_r, 32⟩
theorem R_Round_ok : CtrOk Try.prog 32 R_Round_ctr := ctr_ok (l := R_Round_dc) (f := 12) (an := R_Round_an) ⟨R_Floor_ok, trivial⟩ fun fu x => by kernel_rfl
def law_none_r (fu : Nat) (a : (Bool) × ((Int) × ((Int) × (Unit)))) : Option ((Bool) × (Unit)) :=
  bif a.1 then
    let v0 : Bool := (decide (a.2.1 = a.2.2.1))
    some ((v0, ()))
  else
  some ((false, ()))
def law_none_an : An := (.n none .z (.n none .z .z))
noncomputable def law_none_dc : List (Nat × Ctr) := []
def law_none_ctr : Ctr := ⟨(.pair .bool (.pair (.int .i64) (.pair (.int .i64) .unit))), (.pair .bool .unit), law_none_r, 22⟩
theorem law_none_ok : CtrOk Try.prog 22 law_none_ctr := ctr_ok (l := law_none_dc) (f := 12) (an := law_none_an) trivial fun fu x => by kernel_rfl
def R_Within_r (fu : Nat) (a : (Int) × ((Int) × ((Int) × (Unit)))) : Option ((Bool) × (Unit)) :=
  bif (decide (a.2.1 ≤ a.1)) then
    let v0 : Bool := (decide (a.1 ≤ a.2.2.1))
    some ((v0, ()))
  else
  some ((false, ()))
def R_Within_an : An := (.n none .z (.n none .z .z))
noncomputable def R_Within_dc : List (Nat × Ctr) := []
def R_Within_ctr : Ctr := ⟨(.pair (.int .i64) (.pair (.int .i64) (.pair (.int .i64) .unit))), (.pair .bool .unit), R_Within_r, 17⟩
theorem R_Within_ok : CtrOk Try.prog 17 R_Within_ctr := ctr_ok (l := R_Within_dc) (f := 12) (an := R_Within_an) trivial fun fu x => by kernel_rfl
def R_LabErr_j1 (fu : Nat) (v0 : Bool) : Option ((Int) × (Unit)) :=
  bif v0 then
    some (((3 : Int), ()))
  else
  some (((0 : Int), ()))
def R_LabErr_r (fu : Nat) (a : ((Int) × ((Int) × (Int))) × (Unit)) : Option ((Int) × (Unit)) :=
  joinF (R_LabErr_j1 fu) fun j0 =>
  bindO (R_Within_r fu ((a.1.1, ((0 : Int), ((10000 : Int), ()))))) fun v1 =>
  bif (!v1.1) then
    j0 (true)
  else
  bindO (R_Within_r fu ((a.1.2.1, ((-12800 : Int), ((12800 : Int), ()))))) fun v2 =>
  bif (!v2.1) then
    j0 (true)
  else
  bindO (R_Within_r fu ((a.1.2.2, ((-12800 : Int), ((12800 : Int), ()))))) fun v3 =>
  j0 ((!v3.1))
def R_LabErr_an : An := (.n none .z (.n none (.n (some ⟨[2], [0], [], [.reg 18 .bool], 0, []⟩) .z (.n none (.n none .z .z) .z)) (.n none .z .z)))
noncomputable def R_LabErr_dc : List (Nat × Ctr) := [(17, R_Within_ctr)]
def R_LabErr_ctr : Ctr := ⟨(.pair (.agg (.pair (.int .i64) (.pair (.int .i64) (.int .i64)))) .unit), (.pair (.int .i64) .unit), R_LabErr_r, 58⟩
theorem R_LabErr_ok : CtrOk Try.prog 58 R_LabErr_ctr := ctr_ok (l := R_LabErr_dc) (f := 12) (an := R_LabErr_an) ⟨R_Within_ok, trivial⟩ fun fu x => by kernel_rfl
def R_Power_l1 (fu : Nat) (a : (Int) × ((Int) × (Unit))) (j0 : ((Int) × (Int)) → Option ((Int) × (Unit))) (v0 : (Int) × (Int)) : Option ((Int) × (Unit)) :=
  bif (decide (v0.2 < a.2.1)) then
    let v1 : Int := (IntKind.i64.wrap (v0.1 * a.1))
    j0 ((v1, (IntKind.i64.wrap (v0.2 + (1 : Int)))))
  else
  let v1 : Int := v0.1
  some ((v1, ()))
def R_Power_r (fu : Nat) (a : (Int) × ((Int) × (Unit))) : Option ((Int) × (Unit)) :=
  loopF (R_Power_l1 fu a) fu (((1 : Int), (0 : Int)))
def R_Power_an : An := (.n none .z (.n none .z (.n none (.n none .z (.n none (.n (some ⟨[0, 6, 4], [], [], [.reg 5 (.int .i64), .reg 7 (.int .i64)], 0, []⟩) (.n none .z (.n none .z (.n none (.n none .z .z) .z))) .z) .z)) (.n none .z .z))))
noncomputable def R_Power_dc : List (Nat × Ctr) := []
def R_Power_ctr : Ctr := ⟨(.pair (.int .i64) (.pair (.int .i64) .unit)), (.pair (.int .i64) .unit), R_Power_r, 57⟩
theorem R_Power_ok : CtrOk Try.prog 57 R_Power_ctr := ctr_ok (l := R_Power_dc) (f := 12) (an := R_Power_an) trivial fun fu x => by kernel_rfl
def R_Mod_r (fu : Nat) (a : (Int) × ((Int) × (Unit))) : Option ((Int) × (Unit)) :=
  bindO (R_Floor_r fu ((a.1, (a.2.1, ())))) fun v0 =>
  let v1 : Int := (IntKind.i64.wrap (a.1 - (IntKind.i64.wrap (a.2.1 * v0.1))))
  some ((v1, ()))
def R_Mod_an : An := (.n none .z (.n none .z .z))
noncomputable def R_Mod_dc : List (Nat × Ctr) := [(26, R_Floor_ctr)]
def R_Mod_ctr : Ctr := ⟨(.pair (.int .i64) (.pair (.int .i64) .unit)), (.pair (.int .i64) .unit), R_Mod_r, 27⟩
theorem R_Mod_ok : CtrOk Try.prog 27 R_Mod_ctr := ctr_ok (l := R_Mod_dc) (f := 12) (an := R_Mod_an) ⟨R_Floor_ok, trivial⟩ fun fu x => by kernel_rfl
def sheet_Check_j1 (fu : Nat) (a : ((Int) × ((Int) × (List (Int)))) × (Unit)) (v0 : Bool) : Option ((Int) × (Unit)) :=
  bif v0 then
    some (((3 : Int), ()))
  else
  bif (decide ((List.length a.1.2.2 : Int) ≠ (IntKind.i64.wrap (a.1.1 * a.1.2.1)))) then
    some (((4 : Int), ()))
  else
  some (((0 : Int), ()))
def sheet_Check_r (fu : Nat) (a : ((Int) × ((Int) × (List (Int)))) × (Unit)) : Option ((Int) × (Unit)) :=
  joinF (sheet_Check_j1 fu a) fun j0 =>
  bif (decide (a.1.1 < (1 : Int))) then
    j0 (true)
  else
  bif (decide ((1024 : Int) < a.1.1)) then
    j0 (true)
  else
  bif (decide (a.1.2.1 < (1 : Int))) then
    j0 (true)
  else
  j0 ((decide ((1024 : Int) < a.1.2.1)))
def sheet_Check_an : An := (.n none .z (.n none (.n (some ⟨[1, 2], [0], [], [.reg 20 .bool], 0, []⟩) .z (.n none (.n none .z .z) .z)) (.n none (.n none .z (.n none (.n none .z .z) .z)) (.n none .z .z))))
noncomputable def sheet_Check_dc : List (Nat × Ctr) := []
def sheet_Check_ctr : Ctr := ⟨(.pair (.agg (.pair (.int .i64) (.pair (.int .i64) (.list (.int .u8))))) .unit), (.pair (.int .i64) .unit), sheet_Check_r, 56⟩
theorem sheet_Check_ok : CtrOk Try.prog 56 sheet_Check_ctr := ctr_ok (l := sheet_Check_dc) (f := 12) (an := sheet_Check_an) trivial fun fu x => by kernel_rfl
def R_MaskErr_j1 (fu : Nat) (a : ((Int) × ((Int) × (List (Int)))) × (Unit)) (v0 : Bool) : Option ((Int) × (Unit)) :=
  bif v0 then
    some (((3 : Int), ()))
  else
  bif (decide ((List.length a.1.2.2 : Int) ≠ (IntKind.i64.wrap (a.1.1 * a.1.2.1)))) then
    some (((4 : Int), ()))
  else
  some (((0 : Int), ()))
def R_MaskErr_r (fu : Nat) (a : ((Int) × ((Int) × (List (Int)))) × (Unit)) : Option ((Int) × (Unit)) :=
  joinF (R_MaskErr_j1 fu a) fun j0 =>
  bindO (R_Within_r fu ((a.1.1, ((1 : Int), ((1024 : Int), ()))))) fun v1 =>
  bif (!v1.1) then
    j0 (true)
  else
  bindO (R_Within_r fu ((a.1.2.1, ((1 : Int), ((1024 : Int), ()))))) fun v2 =>
  j0 ((!v2.1))
def R_MaskErr_an : An := (.n none .z (.n none (.n (some ⟨[1, 2], [0], [], [.reg 12 .bool], 0, []⟩) .z (.n none (.n none .z .z) .z)) (.n none (.n none .z (.n none (.n none .z .z) .z)) (.n none .z .z))))
noncomputable def R_MaskErr_dc : List (Nat × Ctr) := [(17, R_Within_ctr)]
def R_MaskErr_ctr : Ctr := ⟨(.pair (.agg (.pair (.int .i64) (.pair (.int .i64) (.list (.int .u8))))) .unit), (.pair (.int .i64) .unit), R_MaskErr_r, 50⟩
theorem R_MaskErr_ok : CtrOk Try.prog 50 R_MaskErr_ctr := ctr_ok (l := R_MaskErr_dc) (f := 12) (an := R_MaskErr_an) ⟨R_Within_ok, trivial⟩ fun fu x => by kernel_rfl
def curve_Nearest_j1 (fu : Nat) (v3 : Int) : Option ((Int) × (Unit)) :=
  some ((v3, ()))
def curve_Nearest_r (fu : Nat) (a : (Int) × ((Int) × (Unit))) : Option ((Int) × (Unit)) :=
  let v0 : Int := (IntKind.i64.wrap ((IntKind.i64.wrap ((2 : Int) * a.1)) + a.2.1))
  let v1 : Int := (IntKind.i64.wrap ((2 : Int) * a.2.1))
  bif (decide (v1 ≠ (0 : Int))) then
  let v2 : Int := (IntKind.i64.wrap (Int.tdiv v0 v1))
  joinF (curve_Nearest_j1 fu) fun j3 =>
  bif (decide (v1 ≠ (0 : Int))) then
  bif (decide ((Int.tmod v0 v1) < (0 : Int))) then
    let v4 : Int := (IntKind.i64.wrap (v2 - (1 : Int)))
    j3 (v4)
  else
  j3 (v2)
  else none
  else none
def curve_Nearest_an : An := (.n none .z (.n none .z (.n none .z (.n (some ⟨[4], [], [], [.reg 5 (.int .i64)], 0, []⟩) (.n none .z (.n none .z .z)) (.n none .z .z)))))
noncomputable def curve_Nearest_dc : List (Nat × Ctr) := []
def curve_Nearest_ctr : Ctr := ⟨(.pair (.int .i64) (.pair (.int .i64) .unit)), (.pair (.int .i64) .unit), curve_Nearest_r, 82⟩
theorem curve_Nearest_ok : CtrOk Try.prog 82 curve_Nearest_ctr := ctr_ok (l := curve_Nearest_dc) (f := 12) (an := curve_Nearest_an) trivial fun fu x => by kernel_rfl
def refspace_Check_j1 (fu : Nat) (v0 : Bool) : Option ((Int) × (Unit)) :=
  bif v0 then
    some (((3 : Int), ()))
  else
  some (((0 : Int), ()))
def refspace_Check_r (fu : Nat) (a : ((Int) × ((Int) × (Int))) × (Unit)) : Option ((Int) × (Unit)) :=
  joinF (refspace_Check_j1 fu) fun j0 =>
  bif (decide (a.1.1 < (0 : Int))) then
    j0 (true)
  else
  bif (decide ((10000 : Int) < a.1.1)) then
    j0 (true)
  else
  bif (decide (a.1.2.1 < (-12800 : Int))) then
    j0 (true)
  else
  bif (decide ((12800 : Int) < a.1.2.1)) then
    j0 (true)
  else
  bif (decide (a.1.2.2 < (-12800 : Int))) then
    j0 (true)
  else
  j0 ((decide ((12800 : Int) < a.1.2.2)))
def refspace_Check_an : An := (.n none .z (.n none (.n (some ⟨[2], [0], [], [.reg 30 .bool], 0, []⟩) .z (.n none (.n none .z .z) .z)) (.n none .z .z)))
noncomputable def refspace_Check_dc : List (Nat × Ctr) := []
def refspace_Check_ctr : Ctr := ⟨(.pair (.agg (.pair (.int .i64) (.pair (.int .i64) (.int .i64)))) .unit), (.pair (.int .i64) .unit), refspace_Check_r, 81⟩
theorem refspace_Check_ok : CtrOk Try.prog 81 refspace_Check_ctr := ctr_ok (l := refspace_Check_dc) (f := 12) (an := refspace_Check_an) trivial fun fu x => by kernel_rfl
def sheet_Mean_l6 (fu : Nat) (a : ((Int) × ((Int) × (List (Int)))) × ((List ((Int) × ((Int) × (Int)))) × (Unit))) (v6 : (Int) × (List (Int))) (j7 : ((Int) × ((Int) × ((Int) × (Int)))) → Option (((Int) × ((Int) × (Int))) × ((Int) × (Unit)))) (v7 : (Int) × ((Int) × ((Int) × (Int)))) : Option (((Int) × ((Int) × (Int))) × ((Int) × (Unit))) :=
  bif (decide (v7.1 < (List.length v6.2 : Int))) then
    bif ((decide ((0 : Int) ≤ v7.1)) && (decide (v7.1 < (List.length v6.2 : Int)))) then
    let v8 : Int := v7.1
    let v9 : Int := (List.getD v6.2 (Int.toNat v7.1) 0)
    bif ((decide ((0 : Int) ≤ v8)) && (decide (v8 < (List.length a.2.1 : Int)))) then
    let v10 : (Int) × ((Int) × (Int)) := (List.getD a.2.1 (Int.toNat v8) (0, (0, 0)))
    bif ((decide ((0 : Int) ≤ v8)) && (decide (v8 < (List.length a.2.1 : Int)))) then
    let v11 : (Int) × ((Int) × (Int)) := (List.getD a.2.1 (Int.toNat v8) (0, (0, 0)))
    bif ((decide ((0 : Int) ≤ v8)) && (decide (v8 < (List.length a.2.1 : Int)))) then
    let v12 : (Int) × ((Int) × (Int)) := (List.getD a.2.1 (Int.toNat v8) (0, (0, 0)))
    j7 (((IntKind.i64.wrap (v7.1 + (1 : Int))), ((IntKind.i64.wrap (v7.2.1 + (IntKind.i64.wrap (v9 * v10.1)))), ((IntKind.i64.wrap (v7.2.2.1 + (IntKind.i64.wrap (v9 * v11.2.1)))), (IntKind.i64.wrap (v7.2.2.2 + (IntKind.i64.wrap (v9 * v12.2.2))))))))
    else none
    else none
    else none
    else none
  else
  let v8 : Int := (IntKind.i64.wrap (a.1.1 * a.1.2.1))
  bindO (curve_Nearest_r fu ((v7.2.1, (v8, ())))) fun v9 =>
  bindO (curve_Nearest_r fu ((v7.2.2.1, (v8, ())))) fun v10 =>
  bindO (curve_Nearest_r fu ((v7.2.2.2, (v8, ())))) fun v11 =>
  some (((v9.1, (v10.1, v11.1)), ((0 : Int), ())))
def sheet_Mean_j5 (fu : Nat) (a : ((Int) × ((Int) × (List (Int)))) × ((List ((Int) × ((Int) × (Int)))) × (Unit))) (v6 : (Int) × (List (Int))) : Option (((Int) × ((Int) × (Int))) × ((Int) × (Unit))) :=
  bif (decide (v6.1 ≠ (0 : Int))) then
    let v7 : Int := v6.1
    some ((((0 : Int), ((0 : Int), (0 : Int))), (v7, ())))
  else
  loopF (sheet_Mean_l6 fu a v6) fu (((0 : Int), ((0 : Int), ((0 : Int), (0 : Int)))))
def sheet_Mean_l8 (fu : Nat) (a : ((Int) × ((Int) × (List (Int)))) × ((List ((Int) × ((Int) × (Int)))) × (Unit))) (j6 : ((Int) × (List (Int))) → Option (((Int) × ((Int) × (Int))) × ((Int) × (Unit)))) (j10 : ((Int) × (List (Int))) → Option (((Int) × ((Int) × (Int))) × ((Int) × (Unit)))) (v10 : (Int) × (List (Int))) : Option (((Int) × ((Int) × (Int))) × ((Int) × (Unit))) :=
  bif (decide (v10.1 < (List.length a.1.2.2 : Int))) then
    bif ((decide ((0 : Int) ≤ v10.1)) && (decide (v10.1 < (List.length a.1.2.2 : Int)))) then
    let v11 : Int := (List.getD a.1.2.2 (Int.toNat v10.1) 0)
    bif (decide ((List.length v10.2 : Int) ≤ (IntKind.i64.wrap v11))) then
      j6 (((4 : Int), ([] : List (Int))))
    else
    bif ((decide ((0 : Int) ≤ v11)) && (decide (v11 < (List.length v10.2 : Int)))) then
    bif ((decide ((0 : Int) ≤ v11)) && (decide (v11 < (List.length v10.2 : Int)))) then
    j10 (((IntKind.i64.wrap (v10.1 + (1 : Int))), (List.set v10.2 (Int.toNat v11) (IntKind.i64.wrap ((List.getD v10.2 (Int.toNat v11) 0) + (1 : Int))))))
    else none
    else none
    else none
  else
  j6 (((0 : Int), v10.2))
def sheet_Mean_j7 (fu : Nat) (a : ((Int) × ((Int) × (List (Int)))) × ((List ((Int) × ((Int) × (Int)))) × (Unit))) (v2 : Int) (j6 : ((Int) × (List (Int))) → Option (((Int) × ((Int) × (Int))) × ((Int) × (Unit)))) (v9 : Bool) : Option (((Int) × ((Int) × (Int))) × ((Int) × (Unit))) :=
  bif v9 then
    j6 (((3 : Int), ([] : List (Int))))
  else
  bif ((decide ((0 : Int) ≤ v2)) && (decide (v2 ≤ (64 : Int)))) then
  bif ((decide ((0 : Int) ≤ (IntKind.i64.wrap ((1 : Int) * 2 ^ (Int.toNat v2))))) && (decide (((8 : Int) * (IntKind.i64.wrap ((1 : Int) * 2 ^ (Int.toNat v2)))) ≤ (281474976710656 : Int)))) then
  loopF (sheet_Mean_l8 fu a j6) fu (((0 : Int), (List.replicate (Int.toNat (IntKind.i64.wrap ((1 : Int) * 2 ^ (Int.toNat v2)))) (0 : Int))))
  else none
  else none
def sheet_Mean_l4 (fu : Nat) (a : ((Int) × ((Int) × (List (Int)))) × ((List ((Int) × ((Int) × (Int)))) × (Unit))) (v2 : Int) (j5 : ((Int) × ((Int) × ((Int) × (Int)))) → Option (((Int) × ((Int) × (Int))) × ((Int) × (Unit)))) (v5 : (Int) × ((Int) × ((Int) × (Int)))) : Option (((Int) × ((Int) × (Int))) × ((Int) × (Unit))) :=
  bif (decide (v5.1 < (List.length a.2.1 : Int))) then
    bif ((decide ((0 : Int) ≤ v5.1)) && (decide (v5.1 < (List.length a.2.1 : Int)))) then
    let v6 : (Int) × ((Int) × (Int)) := (List.getD a.2.1 (Int.toNat v5.1) (0, (0, 0)))
    bindO (refspace_Check_r fu (((v6.1, (v6.2.1, v6.2.2)), ()))) fun v7 =>
    let v8 : Int := v7.1
    bif (decide (v8 ≠ (0 : Int))) then
      some ((((0 : Int), ((0 : Int), (0 : Int))), (v8, ())))
    else
    j5 (((IntKind.i64.wrap (v5.1 + (1 : Int))), (v5.2.1, (v5.2.2.1, v5.2.2.2))))
    else none
  else
  joinF (sheet_Mean_j5 fu a) fun j6 =>
  bindO (sheet_Check_r fu (((a.1.1, (a.1.2.1, a.1.2.2)), ()))) fun v7 =>
  let v8 : Int := v7.1
  bif (decide (v8 ≠ (0 : Int))) then
    j6 ((v8, ([] : List (Int))))
  else
  joinF (sheet_Mean_j7 fu a v2 j6) fun j9 =>
  bif (decide (v2 < (1 : Int))) then
    j9 (true)
  else
  j9 ((decide ((8 : Int) < v2)))
def sheet_Mean_j3 (fu : Nat) (a : ((Int) × ((Int) × (List (Int)))) × ((List ((Int) × ((Int) × (Int)))) × (Unit))) (v2 : Int) (v4 : Bool) : Option (((Int) × ((Int) × (Int))) × ((Int) × (Unit))) :=
  bif v4 then
    some ((((0 : Int), ((0 : Int), (0 : Int))), ((4 : Int), ())))
  else
  loopF (sheet_Mean_l4 fu a v2) fu (((0 : Int), ((0 : Int), ((0 : Int), (0 : Int)))))
def sheet_Mean_j2 (fu : Nat) (a : ((Int) × ((Int) × (List (Int)))) × ((List ((Int) × ((Int) × (Int)))) × (Unit))) (v2 : Int) (j2 : (Int) → Option (((Int) × ((Int) × (Int))) × ((Int) × (Unit)))) (v3 : Bool) : Option (((Int) × ((Int) × (Int))) × ((Int) × (Unit))) :=
  bif v3 then
    let v4 : Int := (IntKind.i64.wrap (v2 + (1 : Int)))
    j2 (v4)
  else
  joinF (sheet_Mean_j3 fu a v2) fun j4 =>
  bif (decide (v2 = (0 : Int))) then
    j4 (true)
  else
  j4 ((decide ((8 : Int) < v2)))
def sheet_Mean_l1 (fu : Nat) (a : ((Int) × ((Int) × (List (Int)))) × ((List ((Int) × ((Int) × (Int)))) × (Unit))) (j2 : (Int) → Option (((Int) × ((Int) × (Int))) × ((Int) × (Unit)))) (v2 : Int) : Option (((Int) × ((Int) × (Int))) × ((Int) × (Unit))) :=
  joinF (sheet_Mean_j2 fu a v2 j2) fun j3 =>
  bif (decide (v2 ≤ (8 : Int))) then
    bif ((decide ((0 : Int) ≤ v2)) && (decide (v2 ≤ (64 : Int)))) then
    j3 ((decide ((List.length a.2.1 : Int) ≠ (IntKind.i64.wrap ((1 : Int) * 2 ^ (Int.toNat v2))))))
    else none
  else
  j3 (false)
def sheet_Mean_r (fu : Nat) (a : ((Int) × ((Int) × (List (Int)))) × ((List ((Int) × ((Int) × (Int)))) × (Unit))) : Option (((Int) × ((Int) × (Int))) × ((Int) × (Unit))) :=
  bindO (sheet_Check_r fu (((a.1.1, (a.1.2.1, a.1.2.2)), ()))) fun v0 =>
  let v1 : Int := v0.1
  bif (decide (v1 ≠ (0 : Int))) then
    some ((((0 : Int), ((0 : Int), (0 : Int))), (v1, ())))
  else
  loopF (sheet_Mean_l1 fu a) fu ((0 : Int))
def sheet_Mean_an : An := (.n none .z (.n none (.n none .z (.n none .z (.n none (.n none .z .z) .z))) (.n none .z (.n none (.n none (.n (some ⟨[4, 2, 1, 5], [0, 1], [], [.reg 7 (.int .i64)], 0, []⟩) (.n none (.n (some ⟨[7], [], [], [.reg 31 .bool], 0, []⟩) .z .z) (.n none .z .z)) .z) .z) (.n none (.n (some ⟨[1, 2, 4, 7, 5], [0, 1], [], [.reg 39 .bool], 0, []⟩) .z (.n none (.n none .z .z) .z)) (.n none (.n none .z (.n none (.n (some ⟨[1, 2, 4, 7, 41, 42], [0], [], [.reg 43 (.int .i64), .box 1 [(.int .i64), (.int .i64), (.int .i64)] 102], 0, []⟩) (.n none .z (.n none .z (.n none (.n none (.n none .z (.n none .z (.n none .z (.n none (.n none .z .z) .z)))) .z) .z))) .z) .z)) (.n (some ⟨[4, 2, 1], [1, 0], [(11, (.osl 2 0))], [.reg 12 (.int .i64), .row 2 true (.int .i64) 3 0], 1, [(11, (.int .i64), 3)]⟩) (.ops [(2, (.n none (.n none .z (.n none (.n none .z (.n none .z (.n none (.n none .z .z) .z))) (.n none (.n (some ⟨[1, 2, 4, 5], [2], [], [.reg 20 .bool], 0, []⟩) .z (.n none (.n none .z .z) .z)) (.n none .z (.n none (.n none .z (.n none (.n (some ⟨[7, 25, 26], [2], [], [.reg 27 (.int .i64), .row 3 true (.int .i64) 3 0], 0, []⟩) (.n none .z (.n none .z (.n none (.n none (.n none .z (.n none (.n none .z (.n none (.n none .z .z) .z)) .z)) .z) .z))) .z) .z)) (.n none .z .z)))))) .z))]) (.n none (.n none .z (.n none (.n none .z .z) .z)) (.n none .z (.n none (.n none .z (.n none (.n (some ⟨[13, 65, 66], [2], [], [.reg 67 (.int .i64), .box 3 [(.int .i64), (.int .i64), (.int .i64)] 102], 0, []⟩) (.n none .z (.n none .z (.n none (.n none (.n none .z (.n none (.dr [] []) (.n none (.dr [] []) (.dr [] [])))) .z) .z))) .z) .z)) (.n none .z (.n none (.dr [] []) .z))))))))))))
noncomputable def sheet_Mean_dc : List (Nat × Ctr) := [(56, sheet_Check_ctr), (81, refspace_Check_ctr), (82, curve_Nearest_ctr)]
def sheet_Mean_ctr : Ctr := ⟨(.pair (.agg (.pair (.int .i64) (.pair (.int .i64) (.list (.int .u8))))) (.pair (.list (.pair (.int .i64) (.pair (.int .i64) (.int .i64)))) .unit)), (.pair (.agg (.pair (.int .i64) (.pair (.int .i64) (.int .i64)))) (.pair (.int .i64) .unit)), sheet_Mean_r, 55⟩
theorem sheet_Mean_ok : CtrOk Try.prog 55 sheet_Mean_ctr := ctr_ok (l := sheet_Mean_dc) (f := 12) (an := sheet_Mean_an) ⟨sheet_Check_ok, ⟨refspace_Check_ok, ⟨curve_Nearest_ok, trivial⟩⟩⟩ fun fu x => by kernel_rfl
def R_SameInts_l1 (fu : Nat) (a : (List (Int)) × ((List (Int)) × (Unit))) (j0 : (Int) → Option ((Bool) × (Unit))) (v0 : Int) : Option ((Bool) × (Unit)) :=
  bif (decide (v0 < (List.length a.1 : Int))) then
    bif ((decide ((0 : Int) ≤ v0)) && (decide (v0 < (List.length a.1 : Int)))) then
    let v1 : Int := (List.getD a.1 (Int.toNat v0) 0)
    bif ((decide ((0 : Int) ≤ v0)) && (decide (v0 < (List.length a.2.1 : Int)))) then
    let v2 : Int := (List.getD a.2.1 (Int.toNat v0) 0)
    bif (decide (v1 ≠ v2)) then
      some ((false, ()))
    else
    j0 ((IntKind.i64.wrap (v0 + (1 : Int))))
    else none
    else none
  else
  some ((true, ()))
def R_SameInts_r (fu : Nat) (a : (List (Int)) × ((List (Int)) × (Unit))) : Option ((Bool) × (Unit)) :=
  bif (decide ((List.length a.1 : Int) ≠ (List.length a.2.1 : Int))) then
    some ((false, ()))
  else
  loopF (R_SameInts_l1 fu a) fu ((0 : Int))
def R_SameInts_an : An := (.n none .z (.n none (.n none .z (.n none (.n none .z .z) .z)) (.n none (.n none .z (.n none (.n (some ⟨[0, 1, 12], [], [], [.reg 13 (.int .i64)], 0, []⟩) (.n none .z (.n none .z (.n none (.n none (.n none .z (.n none (.dr [] []) (.n none (.n none .z .z) .z))) .z) .z))) .z) .z)) (.n none .z .z))))
noncomputable def R_SameInts_dc : List (Nat × Ctr) := []
def R_SameInts_ctr : Ctr := ⟨(.pair (.list (.int .i64)) (.pair (.list (.int .i64)) .unit)), (.pair .bool .unit), R_SameInts_r, 78⟩
theorem R_SameInts_ok : CtrOk Try.prog 78 R_SameInts_ctr := ctr_ok (l := R_SameInts_dc) (f := 12) (an := R_SameInts_an) trivial fun fu x => by kernel_rfl
def R_SameBytes_r (fu : Nat) (a : (List (Int)) × ((List (Int)) × (Unit))) : Option ((Bool) × (Unit)) :=
  let v0 : Bool := (decide ((bytesOf a.1) = (bytesOf a.2.1)))
  some ((v0, ()))
def R_SameBytes_an : An := (.n none .z (.n none .z .z))
noncomputable def R_SameBytes_dc : List (Nat × Ctr) := []
def R_SameBytes_ctr : Ctr := ⟨(.pair (.list (.int .u8)) (.pair (.list (.int .u8)) .unit)), (.pair .bool .unit), R_SameBytes_r, 59⟩
theorem R_SameBytes_ok : CtrOk Try.prog 59 R_SameBytes_ctr := ctr_ok (l := R_SameBytes_dc) (f := 12) (an := R_SameBytes_an) trivial fun fu x => by kernel_rfl
def sheet_covered_l3 (fu : Nat) (a : ((Int) × ((Int) × (List (Int)))) × ((Int) × ((Int) × ((Int) × (Unit))))) (v2 : Int) (j2 : (Int) → Option ((Bool) × (Unit))) (j4 : (Int) → Option ((Bool) × (Unit))) (v4 : Int) : Option ((Bool) × (Unit)) :=
  bif (decide (v4 ≤ (IntKind.i64.wrap (a.2.1 + a.2.2.2.1)))) then
    bif ((decide ((0 : Int) ≤ (IntKind.i64.wrap ((IntKind.i64.wrap (v2 * a.1.1)) + v4)))) && (decide ((IntKind.i64.wrap ((IntKind.i64.wrap (v2 * a.1.1)) + v4)) < (List.length a.1.2.2 : Int)))) then
    let v5 : Int := (List.getD a.1.2.2 (Int.toNat (IntKind.i64.wrap ((IntKind.i64.wrap (v2 * a.1.1)) + v4))) 0)
    bif (decide (v5 = (0 : Int))) then
      some ((false, ()))
    else
    let v6 : Int := (IntKind.i64.wrap (v4 + (1 : Int)))
    j4 (v6)
    else none
  else
  let v5 : Int := (IntKind.i64.wrap (v2 + (1 : Int)))
  j2 (v5)
def sheet_covered_l2 (fu : Nat) (a : ((Int) × ((Int) × (List (Int)))) × ((Int) × ((Int) × ((Int) × (Unit))))) (j2 : (Int) → Option ((Bool) × (Unit))) (v2 : Int) : Option ((Bool) × (Unit)) :=
  bif (decide (v2 ≤ (IntKind.i64.wrap (a.2.2.1 + a.2.2.2.1)))) then
    let v3 : Int := (IntKind.i64.wrap (a.2.1 - a.2.2.2.1))
    loopF (sheet_covered_l3 fu a v2 j2) fu (v3)
  else
  some ((true, ()))
def sheet_covered_j1 (fu : Nat) (a : ((Int) × ((Int) × (List (Int)))) × ((Int) × ((Int) × ((Int) × (Unit))))) (v0 : Bool) : Option ((Bool) × (Unit)) :=
  bif v0 then
    some ((false, ()))
  else
  let v1 : Int := (IntKind.i64.wrap (a.2.2.1 - a.2.2.2.1))
  loopF (sheet_covered_l2 fu a) fu (v1)
def sheet_covered_r (fu : Nat) (a : ((Int) × ((Int) × (List (Int)))) × ((Int) × ((Int) × ((Int) × (Unit))))) : Option ((Bool) × (Unit)) :=
  joinF (sheet_covered_j1 fu a) fun j0 =>
  bif (decide (a.2.1 < a.2.2.2.1)) then
    j0 (true)
  else
  bif (decide (a.1.1 ≤ (IntKind.i64.wrap (a.2.1 + a.2.2.2.1)))) then
    j0 (true)
  else
  bif (decide (a.2.2.1 < a.2.2.2.1)) then
    j0 (true)
  else
  j0 ((decide (a.1.2.1 ≤ (IntKind.i64.wrap (a.2.2.1 + a.2.2.2.1)))))
def sheet_covered_an : An := (.n none .z (.n none (.n (some ⟨[0, 3, 1, 2, 8], [], [], [.reg 38 .bool], 0, []⟩) .z (.n none (.n none .z .z) .z)) (.n none (.n none .z (.n none (.n (some ⟨[0, 3, 1, 2], [], [], [.reg 9 (.int .i64)], 0, []⟩) (.n none (.n none .z .z) (.n none (.n none (.n none .z (.n none (.n (some ⟨[9], [], [], [.reg 10 (.int .i64)], 0, []⟩) (.n none (.n none .z .z) (.n none (.n none (.n none (.dr [] []) (.n none (.n none .z .z) .z)) .z) .z)) .z) .z)) .z) .z)) .z) .z)) (.n none .z .z))))
noncomputable def sheet_covered_dc : List (Nat × Ctr) := []
def sheet_covered_ctr : Ctr := ⟨(.pair (.ptr (.pair (.int .i64) (.pair (.int .i64) (.list (.int .u8))))) (.pair (.int .i64) (.pair (.int .i64) (.pair (.int .i64) .unit)))), (.pair .bool .unit), sheet_covered_r, 79⟩
theorem sheet_covered_ok : CtrOk Try.prog 79 sheet_covered_ctr := ctr_ok (l := sheet_covered_dc) (f := 12) (an := sheet_covered_an) trivial fun fu x => by kernel_rfl
def sheet_Gaps_j4 (fu : Nat) (v6 : (Int) × (Int)) (j6 : ((Int) × (Int)) → Option ((Int) × ((Int) × (Unit)))) (v7 : Int) : Option ((Int) × ((Int) × (Unit))) :=
  j6 ((v7, (IntKind.i64.wrap (v6.2 + (1 : Int)))))
def sheet_Gaps_j5 (fu : Nat) (v6 : (Int) × (Int)) (j7 : (Int) → Option ((Int) × ((Int) × (Unit)))) (v10 : Bool) : Option ((Int) × ((Int) × (Unit))) :=
  bif v10 then
    let v11 : Int := (IntKind.i64.wrap (v6.1 + (1 : Int)))
    j7 (v11)
  else
  j7 (v6.1)
def sheet_Gaps_l3 (fu : Nat) (a : ((Int) × ((Int) × (List (Int)))) × (((Int) × ((Int) × (List (Int)))) × ((Int) × (Unit)))) (j6 : ((Int) × (Int)) → Option ((Int) × ((Int) × (Unit)))) (v6 : (Int) × (Int)) : Option ((Int) × ((Int) × (Unit))) :=
  bif (decide (v6.2 < (List.length a.2.1.2.2 : Int))) then
    joinF (sheet_Gaps_j4 fu v6 j6) fun j7 =>
    bif ((decide ((0 : Int) ≤ v6.2)) && (decide (v6.2 < (List.length a.2.1.2.2 : Int)))) then
    let v8 : Int := (List.getD a.2.1.2.2 (Int.toNat v6.2) 0)
    let v9 : Int := v6.2
    joinF (sheet_Gaps_j5 fu v6 j7) fun j10 =>
    bif (decide (v8 = (0 : Int))) then
      bif (decide (a.1.1 ≠ (0 : Int))) then
      bif (decide (a.1.1 ≠ (0 : Int))) then
      bindO (sheet_covered_r fu (((a.1.1, (a.1.2.1, a.1.2.2)), ((Int.tmod v9 a.1.1), ((IntKind.i64.wrap (Int.tdiv v9 a.1.1)), (a.2.2.1, ())))))) fun v11 =>
      j10 (v11.1)
      else none
      else none
    else
    j10 (false)
    else none
  else
  let v7 : Int := v6.1
  some ((v7, ((0 : Int), ())))
def sheet_Gaps_j2 (fu : Nat) (a : ((Int) × ((Int) × (List (Int)))) × (((Int) × ((Int) × (List (Int)))) × ((Int) × (Unit)))) (v5 : Bool) : Option ((Int) × ((Int) × (Unit))) :=
  bif v5 then
    some (((0 : Int), ((3 : Int), ())))
  else
  loopF (sheet_Gaps_l3 fu a) fu (((0 : Int), (0 : Int)))
def sheet_Gaps_j1 (fu : Nat) (a : ((Int) × ((Int) × (List (Int)))) × (((Int) × ((Int) × (List (Int)))) × ((Int) × (Unit)))) (v4 : Bool) : Option ((Int) × ((Int) × (Unit))) :=
  bif v4 then
    some (((0 : Int), ((4 : Int), ())))
  else
  joinF (sheet_Gaps_j2 fu a) fun j5 =>
  bif (decide (a.2.2.1 < (0 : Int))) then
    j5 (true)
  else
  j5 ((decide ((16 : Int) < a.2.2.1)))
def sheet_Gaps_r (fu : Nat) (a : ((Int) × ((Int) × (List (Int)))) × (((Int) × ((Int) × (List (Int)))) × ((Int) × (Unit)))) : Option ((Int) × ((Int) × (Unit))) :=
  bindO (sheet_Check_r fu (((a.1.1, (a.1.2.1, a.1.2.2)), ()))) fun v0 =>
  let v1 : Int := v0.1
  bif (decide (v1 ≠ (0 : Int))) then
    some (((0 : Int), (v1, ())))
  else
  bindO (sheet_Check_r fu (((a.2.1.1, (a.2.1.2.1, a.2.1.2.2)), ()))) fun v2 =>
  let v3 : Int := v2.1
  bif (decide (v3 ≠ (0 : Int))) then
    some (((0 : Int), (v3, ())))
  else
  joinF (sheet_Gaps_j1 fu a) fun j4 =>
  bif (decide (a.1.1 ≠ a.2.1.1)) then
    j4 (true)
  else
  j4 ((decide (a.1.2.1 ≠ a.2.1.2.1)))
def sheet_Gaps_an : An := (.n none .z (.n none (.n none .z (.n none .z (.n none (.n none .z .z) .z))) (.n none (.n none .z (.n none .z (.n none (.n none .z .z) .z))) (.n none (.n (some ⟨[4, 2, 3, 6, 7], [0, 1], [], [.reg 34 .bool], 0, []⟩) .z (.n none (.n none .z .z) .z)) (.n none (.n (some ⟨[4, 2, 3, 6, 7], [0, 1], [], [.reg 40 .bool], 0, []⟩) .z (.n none (.n none .z .z) .z)) (.n none .z (.n none (.n none .z (.n none (.n (some ⟨[42, 2, 3, 43, 6, 7], [0, 1], [], [.reg 10 (.int .i64), .reg 44 (.int .i64)], 0, []⟩) (.n none .z (.n none .z (.n (some ⟨[44], [], [], [.reg 10 (.int .i64)], 0, []⟩) (.n none (.n none .z (.n (some ⟨[10], [], [], [.reg 62 .bool], 0, []⟩) (.dr [] []) (.n none .z .z))) .z) .z))) .z) .z)) (.n none .z .z))))))))
noncomputable def sheet_Gaps_dc : List (Nat × Ctr) := [(56, sheet_Check_ctr), (79, sheet_covered_ctr)]
def sheet_Gaps_ctr : Ctr := ⟨(.pair (.agg (.pair (.int .i64) (.pair (.int .i64) (.list (.int .u8))))) (.pair (.agg (.pair (.int .i64) (.pair (.int .i64) (.list (.int .u8))))) (.pair (.int .i64) .unit))), (.pair (.int .i64) (.pair (.int .i64) .unit)), sheet_Gaps_r, 49⟩
theorem sheet_Gaps_ok : CtrOk Try.prog 49 sheet_Gaps_ctr := ctr_ok (l := sheet_Gaps_dc) (f := 12) (an := sheet_Gaps_an) ⟨sheet_Check_ok, ⟨sheet_covered_ok, trivial⟩⟩ fun fu x => by kernel_rfl
def bitmap_stride_r (fu : Nat) (a : (Int) × (Unit)) : Option ((Int) × (Unit)) :=
  let v0 : Int := (IntKind.i64.wrap (Int.tdiv (IntKind.i64.wrap (a.1 + (7 : Int))) (8 : Int)))
  some ((v0, ()))
def bitmap_stride_an : An := (.n none .z (.n none .z .z))
noncomputable def bitmap_stride_dc : List (Nat × Ctr) := []
def bitmap_stride_ctr : Ctr := ⟨(.pair (.int .i64) .unit), (.pair (.int .i64) .unit), bitmap_stride_r, 69⟩
theorem bitmap_stride_ok : CtrOk Try.prog 69 bitmap_stride_ctr := ctr_ok (l := bitmap_stride_dc) (f := 12) (an := bitmap_stride_an) trivial fun fu x => by kernel_rfl
def bitmap_Is_r (fu : Nat) (a : ((Int) × ((Int) × (List (Int)))) × ((Int) × ((Int) × (Unit)))) : Option ((Bool) × (Unit)) :=
  bif (decide ((0 : Int) ≤ a.2.1)) then
    bif (decide (a.2.1 < a.1.1)) then
      bif (decide ((0 : Int) ≤ a.2.2.1)) then
        bif (decide (a.2.2.1 < a.1.2.1)) then
          bindO (bitmap_stride_r fu ((a.1.1, ()))) fun v0 =>
          bif ((decide ((0 : Int) ≤ (IntKind.i64.wrap ((IntKind.i64.wrap (a.2.2.1 * v0.1)) + (IntKind.i64.wrap (Int.tdiv a.2.1 (8 : Int))))))) && (decide ((IntKind.i64.wrap ((IntKind.i64.wrap (a.2.2.1 * v0.1)) + (IntKind.i64.wrap (Int.tdiv a.2.1 (8 : Int))))) < (List.length a.1.2.2 : Int)))) then
          let v1 : Int := (List.getD a.1.2.2 (Int.toNat (IntKind.i64.wrap ((IntKind.i64.wrap (a.2.2.1 * v0.1)) + (IntKind.i64.wrap (Int.tdiv a.2.1 (8 : Int)))))) 0)
          bif ((decide ((0 : Int) ≤ (Int.tmod a.2.1 (8 : Int)))) && (decide ((Int.tmod a.2.1 (8 : Int)) ≤ (8 : Int)))) then
          let v2 : Bool := (decide ((bits BinOp.and IntKind.u8 v1 ((128 : Int) / 2 ^ (Int.toNat (Int.tmod a.2.1 (8 : Int))))) ≠ (0 : Int)))
          some ((v2, ()))
          else none
          else none
        else
        some ((false, ()))
      else
      some ((false, ()))
    else
    some ((false, ()))
  else
  some ((false, ()))
def bitmap_Is_an : An := (.n none .z (.n none (.dr [] []) .z))
noncomputable def bitmap_Is_dc : List (Nat × Ctr) := [(69, bitmap_stride_ctr)]
def bitmap_Is_ctr : Ctr := ⟨(.pair (.ptr (.pair (.int .i64) (.pair (.int .i64) (.list (.int .u8))))) (.pair (.int .i64) (.pair (.int .i64) .unit))), (.pair .bool .unit), bitmap_Is_r, 60⟩
theorem bitmap_Is_ok : CtrOk Try.prog 60 bitmap_Is_ctr := ctr_ok (l := bitmap_Is_dc) (f := 12) (an := bitmap_Is_an) ⟨bitmap_stride_ok, trivial⟩ fun fu x => by kernel_rfl
def bitmap_Check_j2 (fu : Nat) (v3 : Unit) : Option ((Int) × (Unit)) :=
  some (((0 : Int), ()))
def bitmap_Check_l3 (fu : Nat) (a : ((Int) × ((Int) × (List (Int)))) × (Unit)) (v2 : Int) (v4 : Int) (j3 : (Unit) → Option ((Int) × (Unit))) (j5 : (Int) → Option ((Int) × (Unit))) (v5 : Int) : Option ((Int) × (Unit)) :=
  bif (decide (v5 < a.1.2.1)) then
    bif ((decide ((0 : Int) ≤ (IntKind.i64.wrap ((IntKind.i64.wrap ((IntKind.i64.wrap (v5 * v2)) + v2)) - (1 : Int))))) && (decide ((IntKind.i64.wrap ((IntKind.i64.wrap ((IntKind.i64.wrap (v5 * v2)) + v2)) - (1 : Int))) < (List.length a.1.2.2 : Int)))) then
    let v6 : Int := (List.getD a.1.2.2 (Int.toNat (IntKind.i64.wrap ((IntKind.i64.wrap ((IntKind.i64.wrap (v5 * v2)) + v2)) - (1 : Int)))) 0)
    bif (decide ((bits BinOp.and IntKind.u8 v6 v4) ≠ (0 : Int))) then
      some (((4 : Int), ()))
    else
    j5 ((IntKind.i64.wrap (v5 + (1 : Int))))
    else none
  else
  j3 (())
def bitmap_Check_j1 (fu : Nat) (a : ((Int) × ((Int) × (List (Int)))) × (Unit)) (v0 : Bool) : Option ((Int) × (Unit)) :=
  bif v0 then
    some (((3 : Int), ()))
  else
  bindO (bitmap_stride_r fu ((a.1.1, ()))) fun v1 =>
  let v2 : Int := v1.1
  bif (decide ((List.length a.1.2.2 : Int) ≠ (IntKind.i64.wrap (v2 * a.1.2.1)))) then
    some (((4 : Int), ()))
  else
  joinF (bitmap_Check_j2 fu) fun j3 =>
  bif ((decide ((0 : Int) ≤ (IntKind.i64.wrap ((IntKind.i64.wrap ((8 : Int) * v2)) - a.1.1)))) && (decide ((IntKind.i64.wrap ((IntKind.i64.wrap ((8 : Int) * v2)) - a.1.1)) ≤ (8 : Int)))) then
  let v4 : Int := (IntKind.u8.wrap ((IntKind.u8.wrap ((1 : Int) * 2 ^ (Int.toNat (IntKind.i64.wrap ((IntKind.i64.wrap ((8 : Int) * v2)) - a.1.1))))) - (1 : Int)))
  bif (decide (v4 ≠ (0 : Int))) then
    loopF (bitmap_Check_l3 fu a v2 v4 j3) fu ((0 : Int))
  else
  j3 (())
  else none
def bitmap_Check_r (fu : Nat) (a : ((Int) × ((Int) × (List (Int)))) × (Unit)) : Option ((Int) × (Unit)) :=
  joinF (bitmap_Check_j1 fu a) fun j0 =>
  bif (decide (a.1.1 < (1 : Int))) then
    j0 (true)
  else
  bif (decide ((1024 : Int) < a.1.1)) then
    j0 (true)
  else
  bif (decide (a.1.2.1 < (1 : Int))) then
    j0 (true)
  else
  j0 ((decide ((1024 : Int) < a.1.2.1)))
def bitmap_Check_an : An := (.n none .z (.n none (.n (some ⟨[1, 2], [0], [], [.reg 23 .bool], 0, []⟩) .z (.n none (.n none .z .z) .z)) (.n none .z (.n none (.n none .z (.n none (.n none .z .z) .z)) (.n (some ⟨[], [0], [], [], 0, []⟩) (.n none .z (.n none .z (.n none (.n none .z (.n none (.n (some ⟨[1, 3, 4, 45], [], [], [.reg 46 (.int .i64)], 0, []⟩) (.n none .z (.n none .z (.n none (.n none (.n none .z (.n none .z (.n none (.n none .z .z) .z))) .z) .z))) .z) .z)) .z))) (.n none .z .z))))))
noncomputable def bitmap_Check_dc : List (Nat × Ctr) := [(69, bitmap_stride_ctr)]
def bitmap_Check_ctr : Ctr := ⟨(.pair (.agg (.pair (.int .i64) (.pair (.int .i64) (.list (.int .u8))))) .unit), (.pair (.int .i64) .unit), bitmap_Check_r, 38⟩
theorem bitmap_Check_ok : CtrOk Try.prog 38 bitmap_Check_ctr := ctr_ok (l := bitmap_Check_dc) (f := 12) (an := bitmap_Check_an) ⟨bitmap_stride_ok, trivial⟩ fun fu x => by kernel_rfl
def sheet_check_j5 (fu : Nat) (v3 : Int) (j3 : (Int) → Option ((Int) × (Unit))) (v10 : Bool) : Option ((Int) × (Unit)) :=
  bif v10 then
    some (((3 : Int), ()))
  else
  j3 ((IntKind.i64.wrap (v3 + (1 : Int))))
def sheet_check_j4 (fu : Nat) (a : (List ((Int) × ((Int) × (List (Int))))) × ((List (Int)) × ((List ((Int) × (Int))) × (Unit)))) (v3 : Int) (j3 : (Int) → Option ((Int) × (Unit))) (v8 : Bool) : Option ((Int) × (Unit)) :=
  bif v8 then
    some (((3 : Int), ()))
  else
  bif ((decide ((0 : Int) ≤ v3)) && (decide (v3 < (List.length a.2.2.1 : Int)))) then
  let v9 : (Int) × (Int) := (List.getD a.2.2.1 (Int.toNat v3) (0, 0))
  joinF (sheet_check_j5 fu v3 j3) fun j10 =>
  bif (decide (v9.1 < (-1024 : Int))) then
    j10 (true)
  else
  bif (decide ((1024 : Int) < v9.1)) then
    j10 (true)
  else
  bif (decide (v9.2 < (-1024 : Int))) then
    j10 (true)
  else
  j10 ((decide ((1024 : Int) < v9.2)))
  else none
def sheet_check_j3 (fu : Nat) (a : (List ((Int) × ((Int) × (List (Int))))) × ((List (Int)) × ((List ((Int) × (Int))) × (Unit)))) (v3 : Int) (j3 : (Int) → Option ((Int) × (Unit))) (v7 : Bool) : Option ((Int) × (Unit)) :=
  bif v7 then
    some (((4 : Int), ()))
  else
  joinF (sheet_check_j4 fu a v3 j3) fun j8 =>
  bif ((decide ((0 : Int) ≤ v3)) && (decide (v3 < (List.length a.2.1 : Int)))) then
  let v9 : Int := (List.getD a.2.1 (Int.toNat v3) 0)
  bif (decide (v9 < (0 : Int))) then
    j8 (true)
  else
  bif ((decide ((0 : Int) ≤ v3)) && (decide (v3 < (List.length a.2.1 : Int)))) then
  let v10 : Int := (List.getD a.2.1 (Int.toNat v3) 0)
  j8 ((decide ((16 : Int) < v10)))
  else none
  else none
def sheet_check_l2 (fu : Nat) (a : (List ((Int) × ((Int) × (List (Int))))) × ((List (Int)) × ((List ((Int) × (Int))) × (Unit)))) (j3 : (Int) → Option ((Int) × (Unit))) (v3 : Int) : Option ((Int) × (Unit)) :=
  bif (decide (v3 < (List.length a.1 : Int))) then
    bif ((decide ((0 : Int) ≤ v3)) && (decide (v3 < (List.length a.1 : Int)))) then
    let v4 : (Int) × ((Int) × (List (Int))) := (List.getD a.1 (Int.toNat v3) (0, (0, [])))
    bindO (bitmap_Check_r fu (((v4.1, (v4.2.1, v4.2.2)), ()))) fun v5 =>
    let v6 : Int := v5.1
    bif (decide (v6 ≠ (0 : Int))) then
      some ((v6, ()))
    else
    joinF (sheet_check_j3 fu a v3 j3) fun j7 =>
    bif (decide ((0 : Int) < (List.length a.1 : Int))) then
    let v8 : (Int) × ((Int) × (List (Int))) := (List.getD a.1 (Int.toNat (0 : Int)) (0, (0, [])))
    bif (decide (v4.1 ≠ v8.1)) then
      j7 (true)
    else
    bif (decide ((0 : Int) < (List.length a.1 : Int))) then
    let v9 : (Int) × ((Int) × (List (Int))) := (List.getD a.1 (Int.toNat (0 : Int)) (0, (0, [])))
    j7 ((decide (v4.2.1 ≠ v9.2.1)))
    else none
    else none
    else none
  else
  some (((0 : Int), ()))
def sheet_check_j1 (fu : Nat) (a : (List ((Int) × ((Int) × (List (Int))))) × ((List (Int)) × ((List ((Int) × (Int))) × (Unit)))) (v2 : Bool) : Option ((Int) × (Unit)) :=
  bif v2 then
    some (((4 : Int), ()))
  else
  loopF (sheet_check_l2 fu a) fu ((0 : Int))
def sheet_check_r (fu : Nat) (a : (List ((Int) × ((Int) × (List (Int))))) × ((List (Int)) × ((List ((Int) × (Int))) × (Unit)))) : Option ((Int) × (Unit)) :=
  let v0 : Bool := (decide ((8 : Int) < (List.length a.1 : Int)))
  bif v0 then
    some (((2 : Int), ()))
  else
  let v1 : Bool := (decide ((List.length a.1 : Int) = (0 : Int)))
  bif v1 then
    some (((1 : Int), ()))
  else
  joinF (sheet_check_j1 fu a) fun j2 =>
  bif (decide ((List.length a.2.1 : Int) ≠ (List.length a.1 : Int))) then
    j2 (true)
  else
  let v3 : Bool := (decide ((List.length a.2.2.1 : Int) ≠ (List.length a.1 : Int)))
  j2 (v3)
def sheet_check_an : An := (.n none .z (.n none (.n none (.n none .z (.n none (.n none .z .z) (.n none .z (.n none (.n none .z .z) (.n (some ⟨[0, 1, 2, 6], [], [], [.reg 19 .bool], 0, []⟩) .z (.n none (.n none .z .z) .z)))))) .z) (.n none (.n none .z (.n none (.n (some ⟨[32, 0, 1, 2, 33], [], [], [.reg 34 (.int .i64)], 0, []⟩) (.n none .z (.n none .z (.n none (.n none (.n none .z (.n none (.n none .z (.n none .z (.n none (.n none .z .z) .z))) (.n none (.n (some ⟨[7, 34], [0], [], [.reg 59 .bool], 0, []⟩) (.dr [] []) (.n none (.n none .z .z) .z)) (.n none (.n (some ⟨[7, 34], [], [], [.reg 71 .bool], 0, []⟩) .z (.n none (.n none .z .z) .z)) (.n none .z (.n (some ⟨[34], [1], [], [.reg 93 .bool], 0, []⟩) .z (.n none (.n none .z .z) .z))))))) .z) .z))) .z) .z)) (.n none .z .z))))
noncomputable def sheet_check_dc : List (Nat × Ctr) := [(38, bitmap_Check_ctr)]
def sheet_check_ctr : Ctr := ⟨(.pair (.list (.pair (.int .i64) (.pair (.int .i64) (.list (.int .u8))))) (.pair (.list (.int .i64)) (.pair (.list (.pair (.int .i64) (.int .i64))) .unit))), (.pair (.int .i64) .unit), sheet_check_r, 80⟩
theorem sheet_check_ok : CtrOk Try.prog 80 sheet_check_ctr := ctr_ok (l := sheet_check_dc) (f := 12) (an := sheet_check_an) ⟨bitmap_Check_ok, trivial⟩ fun fu x => by kernel_rfl
def law_SheetMeans_j3 (fu : Nat) (v7 : (Int) × ((Int) × ((Int) × ((Int) × (Int))))) (j7 : ((Int) × ((Int) × ((Int) × ((Int) × (Int))))) → Option ((Bool) × (Unit))) (v8 : (Int) × ((Int) × ((Int) × (Int)))) : Option ((Bool) × (Unit)) :=
  j7 ((v8.1, ((IntKind.i64.wrap (v7.2.1 + (1 : Int))), (v8.2.1, (v8.2.2.1, v8.2.2.2)))))
def law_SheetMeans_l6 (fu : Nat) (a : ((Int) × ((Int) × (List (Int)))) × ((Int) × ((List ((Int) × ((Int) × (Int)))) × (Unit)))) (v2 : ((Int) × ((Int) × (Int))) × ((Int) × (Unit))) (v3 : Int) (v7 : (Int) × ((Int) × ((Int) × ((Int) × (Int))))) (v9 : Int) (j11 : (Int) → Option ((Bool) × (Unit))) (v11 : Int) : Option ((Bool) × (Unit)) :=
  bif (decide (v11 < (List.length a.2.2.1 : Int))) then
    bif ((decide ((0 : Int) ≤ v11)) && (decide (v11 < (List.length a.2.2.1 : Int)))) then
    let v12 : (Int) × ((Int) × (Int)) := (List.getD a.2.2.1 (Int.toNat v11) (0, (0, 0)))
    bindO (R_LabErr_r fu (((v12.1, (v12.2.1, v12.2.2)), ()))) fun v13 =>
    bif (decide (v13.1 ≠ (0 : Int))) then
      bindO (law_none_r fu ((((decide (v2.1.1 = (0 : Int))) && ((decide (v2.1.2.1 = (0 : Int))) && (decide (v2.1.2.2 = (0 : Int))))), (v3, ((3 : Int), ()))))) fun v14 =>
      let v15 : Bool := v14.1
      some ((v15, ()))
    else
    j11 ((IntKind.i64.wrap (v11 + (1 : Int))))
    else none
  else
  bif (decide (v9 ≤ v7.1)) then
    bindO (law_none_r fu ((((decide (v2.1.1 = (0 : Int))) && ((decide (v2.1.2.1 = (0 : Int))) && (decide (v2.1.2.2 = (0 : Int))))), (v3, ((4 : Int), ()))))) fun v12 =>
    let v13 : Bool := v12.1
    some ((v13, ()))
  else
  let v12 : Int := (List.length a.1.2.2 : Int)
  bif (decide (v3 = (0 : Int))) then
    bindO (R_Round_r fu ((v7.2.2.1, (v12, ())))) fun v13 =>
    bindO (R_Round_r fu ((v7.2.2.2.1, (v12, ())))) fun v14 =>
    bindO (R_Round_r fu ((v7.2.2.2.2, (v12, ())))) fun v15 =>
    let v16 : Bool := ((decide (v2.1.1 = v13.1)) && ((decide (v2.1.2.1 = v14.1)) && (decide (v2.1.2.2 = v15.1))))
    some ((v16, ()))
  else
  some ((false, ()))
def law_SheetMeans_j5 (fu : Nat) (a : ((Int) × ((Int) × (List (Int)))) × ((Int) × ((List ((Int) × ((Int) × (Int)))) × (Unit)))) (v2 : ((Int) × ((Int) × (Int))) × ((Int) × (Unit))) (v3 : Int) (v7 : (Int) × ((Int) × ((Int) × ((Int) × (Int))))) (v9 : Int) (v10 : Bool) : Option ((Bool) × (Unit)) :=
  bif v10 then
    bindO (law_none_r fu ((((decide (v2.1.1 = (0 : Int))) && ((decide (v2.1.2.1 = (0 : Int))) && (decide (v2.1.2.2 = (0 : Int))))), (v3, ((4 : Int), ()))))) fun v11 =>
    let v12 : Bool := v11.1
    some ((v12, ()))
  else
  loopF (law_SheetMeans_l6 fu a v2 v3 v7 v9) fu ((0 : Int))
def law_SheetMeans_j4 (fu : Nat) (a : ((Int) × ((Int) × (List (Int)))) × ((Int) × ((List ((Int) × ((Int) × (Int)))) × (Unit)))) (v2 : ((Int) × ((Int) × (Int))) × ((Int) × (Unit))) (v3 : Int) (v7 : (Int) × ((Int) × ((Int) × ((Int) × (Int))))) (v8 : Unit) : Option ((Bool) × (Unit)) :=
  let v9 : Int := (List.length a.2.2.1 : Int)
  joinF (law_SheetMeans_j5 fu a v2 v3 v7 v9) fun j10 =>
  bif (decide (v9 ≠ (2 : Int))) then
    bif (decide (v9 ≠ (4 : Int))) then
      bif (decide (v9 ≠ (8 : Int))) then
        bif (decide (v9 ≠ (16 : Int))) then
          bif (decide (v9 ≠ (32 : Int))) then
            bif (decide (v9 ≠ (64 : Int))) then
              bif (decide (v9 ≠ (128 : Int))) then
                j10 ((decide (v9 ≠ (256 : Int))))
              else
              j10 (false)
            else
            j10 (false)
          else
          j10 (false)
        else
        j10 (false)
      else
      j10 (false)
    else
    j10 (false)
  else
  j10 (false)
def law_SheetMeans_l9 (fu : Nat) (v14 : (Int) × (List (Int))) (j8 : (Unit) → Option ((Bool) × (Unit))) (j15 : (Int) → Option ((Bool) × (Unit))) (v15 : Int) : Option ((Bool) × (Unit)) :=
  bif (decide (v15 < (List.length v14.2 : Int))) then
    bif ((decide ((0 : Int) ≤ v15)) && (decide (v15 < (List.length v14.2 : Int)))) then
    let v16 : Int := (List.getD v14.2 (Int.toNat v15) 0)
    bif (decide (v16 ≠ (0 : Int))) then
      some ((false, ()))
    else
    j15 ((IntKind.i64.wrap (v15 + (1 : Int))))
    else none
  else
  j8 (())
def law_SheetMeans_l8 (fu : Nat) (a : ((Int) × ((Int) × (List (Int)))) × ((Int) × ((List ((Int) × ((Int) × (Int)))) × (Unit)))) (j8 : (Unit) → Option ((Bool) × (Unit))) (j14 : ((Int) × (List (Int))) → Option ((Bool) × (Unit))) (v14 : (Int) × (List (Int))) : Option ((Bool) × (Unit)) :=
  bif (decide (v14.1 < (List.length a.1.2.2 : Int))) then
    bif ((decide ((0 : Int) ≤ v14.1)) && (decide (v14.1 < (List.length a.1.2.2 : Int)))) then
    let v15 : Int := (List.getD a.1.2.2 (Int.toNat v14.1) 0)
    bif ((decide ((0 : Int) ≤ v15)) && (decide (v15 < (List.length v14.2 : Int)))) then
    bif ((decide ((0 : Int) ≤ v15)) && (decide (v15 < (List.length v14.2 : Int)))) then
    j14 (((IntKind.i64.wrap (v14.1 + (1 : Int))), (List.set v14.2 (Int.toNat v15) (IntKind.i64.wrap ((List.getD v14.2 (Int.toNat v15) 0) - (1 : Int))))))
    else none
    else none
    else none
  else
  loopF (law_SheetMeans_l9 fu v14 j8) fu ((0 : Int))
def law_SheetMeans_j7 (fu : Nat) (a : ((Int) × ((Int) × (List (Int)))) × ((Int) × ((List ((Int) × ((Int) × (Int)))) × (Unit)))) (v1 : (Int) × (List (Int))) (j8 : (Unit) → Option ((Bool) × (Unit))) (v13 : Bool) : Option ((Bool) × (Unit)) :=
  bif v13 then
    some ((false, ()))
  else
  loopF (law_SheetMeans_l8 fu a j8) fu (((0 : Int), v1.2))
def law_SheetMeans_l2 (fu : Nat) (a : ((Int) × ((Int) × (List (Int)))) × ((Int) × ((List ((Int) × ((Int) × (Int)))) × (Unit)))) (v1 : (Int) × (List (Int))) (v2 : ((Int) × ((Int) × (Int))) × ((Int) × (Unit))) (v3 : Int) (j7 : ((Int) × ((Int) × ((Int) × ((Int) × (Int))))) → Option ((Bool) × (Unit))) (v7 : (Int) × ((Int) × ((Int) × ((Int) × (Int))))) : Option ((Bool) × (Unit)) :=
  bif (decide (v7.2.1 < (List.length a.1.2.2 : Int))) then
    joinF (law_SheetMeans_j3 fu v7 j7) fun j8 =>
    bif ((decide ((0 : Int) ≤ v7.2.1)) && (decide (v7.2.1 < (List.length a.1.2.2 : Int)))) then
    let v9 : Int := (List.getD a.1.2.2 (Int.toNat v7.2.1) 0)
    let v10 : Int := (max v7.1 (IntKind.i64.wrap v9))
    bif (decide ((IntKind.i64.wrap v9) < (List.length a.2.2.1 : Int))) then
      bif ((decide ((0 : Int) ≤ v9)) && (decide (v9 < (List.length a.2.2.1 : Int)))) then
      let v11 : (Int) × ((Int) × (Int)) := (List.getD a.2.2.1 (Int.toNat v9) (0, (0, 0)))
      bindO (R_Mod_r fu ((v11.1, ((20001 : Int), ())))) fun v12 =>
      bindO (R_Mod_r fu (((IntKind.i64.wrap (v11.2.1 + (12800 : Int))), ((40000 : Int), ())))) fun v13 =>
      bindO (R_Mod_r fu (((IntKind.i64.wrap (v11.2.2 + (12800 : Int))), ((40000 : Int), ())))) fun v14 =>
      j8 ((v10, ((IntKind.i64.wrap (v7.2.2.1 + v12.1)), ((IntKind.i64.wrap ((IntKind.i64.wrap (v7.2.2.2.1 + v13.1)) - (12800 : Int))), (IntKind.i64.wrap ((IntKind.i64.wrap (v7.2.2.2.2 + v14.1)) - (12800 : Int)))))))
      else none
    else
    j8 ((v10, (v7.2.2.1, (v7.2.2.2.1, v7.2.2.2.2))))
    else none
  else
  joinF (law_SheetMeans_j4 fu a v2 v3 v7) fun j8 =>
  bindO (R_Within_r fu ((a.2.1, ((1 : Int), ((8 : Int), ()))))) fun v9 =>
  let v10 : Bool := (!v9.1)
  bif v10 then
    bindO (law_none_r fu (((decide ((List.length v1.2 : Int) = (0 : Int))), (v1.1, ((3 : Int), ()))))) fun v11 =>
    bif (!v11.1) then
      some ((false, ()))
    else
    j8 (())
  else
  bindO (R_Power_r fu (((2 : Int), (a.2.1, ())))) fun v11 =>
  let v12 : Bool := (decide (v11.1 ≤ v7.1))
  bif v12 then
    bindO (law_none_r fu (((decide ((List.length v1.2 : Int) = (0 : Int))), (v1.1, ((4 : Int), ()))))) fun v13 =>
    bif (!v13.1) then
      some ((false, ()))
    else
    j8 (())
  else
  joinF (law_SheetMeans_j7 fu a v1 j8) fun j13 =>
  bif (decide (v1.1 ≠ (0 : Int))) then
    j13 (true)
  else
  bindO (R_Power_r fu (((2 : Int), (a.2.1, ())))) fun v14 =>
  j13 ((decide ((List.length v1.2 : Int) ≠ v14.1)))
def law_SheetMeans_j1 (fu : Nat) (a : ((Int) × ((Int) × (List (Int)))) × ((Int) × ((List ((Int) × ((Int) × (Int)))) × (Unit)))) (v1 : (Int) × (List (Int))) : Option ((Bool) × (Unit)) :=
  bindO (sheet_Mean_r fu (((a.1.1, (a.1.2.1, a.1.2.2)), (a.2.2.1, ())))) fun v2 =>
  let v3 : Int := v2.2.1
  bindO (R_MaskErr_r fu (((a.1.1, (a.1.2.1, a.1.2.2)), ()))) fun v4 =>
  let v5 : Int := v4.1
  bindO (sheet_Check_r fu (((a.1.1, (a.1.2.1, a.1.2.2)), ()))) fun v6 =>
  bif (decide (v6.1 ≠ v5)) then
    some ((false, ()))
  else
  bif (decide (v5 ≠ (0 : Int))) then
    bindO (law_none_r fu (((decide ((List.length v1.2 : Int) = (0 : Int))), (v1.1, (v5, ()))))) fun v7 =>
    bif v7.1 then
      bindO (law_none_r fu ((((decide (v2.1.1 = (0 : Int))) && ((decide (v2.1.2.1 = (0 : Int))) && (decide (v2.1.2.2 = (0 : Int))))), (v3, (v5, ()))))) fun v8 =>
      let v9 : Bool := v8.1
      some ((v9, ()))
    else
    some ((false, ()))
  else
  loopF (law_SheetMeans_l2 fu a v1 v2 v3) fu (((0 : Int), ((0 : Int), ((0 : Int), ((0 : Int), (0 : Int))))))
def law_SheetMeans_l11 (fu : Nat) (a : ((Int) × ((Int) × (List (Int)))) × ((Int) × ((List ((Int) × ((Int) × (Int)))) × (Unit)))) (j1 : ((Int) × (List (Int))) → Option ((Bool) × (Unit))) (j5 : ((Int) × (List (Int))) → Option ((Bool) × (Unit))) (v5 : (Int) × (List (Int))) : Option ((Bool) × (Unit)) :=
  bif (decide (v5.1 < (List.length a.1.2.2 : Int))) then
    bif ((decide ((0 : Int) ≤ v5.1)) && (decide (v5.1 < (List.length a.1.2.2 : Int)))) then
    let v6 : Int := (List.getD a.1.2.2 (Int.toNat v5.1) 0)
    bif (decide ((List.length v5.2 : Int) ≤ (IntKind.i64.wrap v6))) then
      j1 (((4 : Int), ([] : List (Int))))
    else
    bif ((decide ((0 : Int) ≤ v6)) && (decide (v6 < (List.length v5.2 : Int)))) then
    bif ((decide ((0 : Int) ≤ v6)) && (decide (v6 < (List.length v5.2 : Int)))) then
    j5 (((IntKind.i64.wrap (v5.1 + (1 : Int))), (List.set v5.2 (Int.toNat v6) (IntKind.i64.wrap ((List.getD v5.2 (Int.toNat v6) 0) + (1 : Int))))))
    else none
    else none
    else none
  else
  j1 (((0 : Int), v5.2))
def law_SheetMeans_j10 (fu : Nat) (a : ((Int) × ((Int) × (List (Int)))) × ((Int) × ((List ((Int) × ((Int) × (Int)))) × (Unit)))) (j1 : ((Int) × (List (Int))) → Option ((Bool) × (Unit))) (v4 : Bool) : Option ((Bool) × (Unit)) :=
  bif v4 then
    j1 (((3 : Int), ([] : List (Int))))
  else
  bif ((decide ((0 : Int) ≤ a.2.1)) && (decide (a.2.1 ≤ (64 : Int)))) then
  bif ((decide ((0 : Int) ≤ (IntKind.i64.wrap ((1 : Int) * 2 ^ (Int.toNat a.2.1))))) && (decide (((8 : Int) * (IntKind.i64.wrap ((1 : Int) * 2 ^ (Int.toNat a.2.1)))) ≤ (281474976710656 : Int)))) then
  loopF (law_SheetMeans_l11 fu a j1) fu (((0 : Int), (List.replicate (Int.toNat (IntKind.i64.wrap ((1 : Int) * 2 ^ (Int.toNat a.2.1)))) (0 : Int))))
  else none
  else none
def law_SheetMeans_r (fu : Nat) (a : ((Int) × ((Int) × (List (Int)))) × ((Int) × ((List ((Int) × ((Int) × (Int)))) × (Unit)))) : Option ((Bool) × (Unit)) :=
  bindO (law_sheetWorks_r fu (())) fun v0 =>
  bif (!v0.1) then
    some ((false, ()))
  else
  joinF (law_SheetMeans_j1 fu a) fun j1 =>
  bindO (sheet_Check_r fu (((a.1.1, (a.1.2.1, a.1.2.2)), ()))) fun v2 =>
  let v3 : Int := v2.1
  bif (decide (v3 ≠ (0 : Int))) then
    j1 ((v3, ([] : List (Int))))
  else
  joinF (law_SheetMeans_j10 fu a j1) fun j4 =>
  bif (decide (a.2.1 < (1 : Int))) then
    j4 (true)
  else
  j4 ((decide ((8 : Int) < a.2.1)))
def law_SheetMeans_an : An := (.n none .z (.n none (.n none .z (.n none (.n none .z .z) .z)) (.n (some ⟨[3, 2, 1, 6], [0], [(7, (.osl 1 0))], [.reg 8 (.int .i64), .row 1 true (.int .i64) 3 0], 1, [(7, (.int .i64), 3)]⟩) (.ops [(2, (.n none (.n none .z (.n none (.n none .z (.n none .z (.n none (.n none .z .z) .z))) (.n none (.n (some ⟨[1, 2, 4, 5], [1], [], [.reg 20 .bool], 0, []⟩) .z (.n none (.n none .z .z) .z)) (.n none .z (.n none (.n none .z (.n none (.n (some ⟨[7, 25, 26], [1], [], [.reg 27 (.int .i64), .row 2 true (.int .i64) 3 0], 0, []⟩) (.n none .z (.n none .z (.n none (.n none (.n none .z (.n none (.n none .z (.n none (.n none .z .z) .z)) .z)) .z) .z))) .z) .z)) (.n none .z .z)))))) .z))]) (.n none .z (.n none .z (.n none (.n none .z (.n none (.n none .z .z) .z)) (.n none (.n none .z (.n none (.n none .z .z) .z)) (.n none .z (.n none (.n none .z (.n none (.n (some ⟨[7, 10, 9, 13, 8, 63, 64], [1, 2], [], [.reg 12 (.int .i64), .reg 65 (.int .i64), .box 3 [(.int .i64), (.int .i64), (.int .i64)] 102], 0, []⟩) (.n none .z (.n none .z (.n (some ⟨[65], [], [], [.reg 12 (.int .i64), .box 3 [(.int .i64), (.int .i64), (.int .i64)] 102], 0, []⟩) (.n none (.n none .z (.n none .z (.n none .z (.n none (.n none .z (.dr [] [])) .z)))) .z) .z))) .z) .z)) (.n (some ⟨[13, 9, 10, 12], [3, 2], [], [], 0, []⟩) (.n none (.n none .z (.n none (.n none .z (.n none (.n none .z .z) .z)) (.n none .z (.n none (.n none .z (.n none (.n none .z .z) .z)) (.n none (.n (some ⟨[7], [1], [], [.reg 116 .bool], 0, []⟩) .z (.n none (.n none .z .z) .z)) (.n none (.n none .z (.n none (.n (some ⟨[7, 118, 119], [], [], [.reg 120 (.int .i64), .row 1 true (.int .i64) 3 0], 0, []⟩) (.n none .z (.n none .z (.n none (.n none (.n none .z .z) .z) .z))) .z) .z)) (.n none .z (.n none (.n (some ⟨[131, 132], [1], [], [.reg 133 (.int .i64)], 0, []⟩) (.n none .z (.n none .z (.n none (.n none (.n none .z (.n none .z (.n none (.n none .z .z) .z))) .z) .z))) .z) .z)))))))) .z) (.n none .z (.n none (.n (some ⟨[21], [], [], [.reg 192 .bool], 0, []⟩) .z (.n none (.n none .z .z) .z)) (.n none (.n none .z (.n none (.n (some ⟨[21, 198, 199], [], [], [.reg 200 (.int .i64)], 0, []⟩) (.n none .z (.n none .z (.n none (.n none (.n none .z (.n none .z (.n none (.n none .z .z) .z))) .z) .z))) .z) .z)) (.n none (.n none .z (.n none (.n none .z .z) .z)) (.n none .z (.n none (.dr [] []) .z))))))))))))))))
noncomputable def law_SheetMeans_dc : List (Nat × Ctr) := [(17, R_Within_ctr), (22, law_none_ctr), (27, R_Mod_ctr), (32, R_Round_ctr), (48, law_sheetWorks_ctr), (50, R_MaskErr_ctr), (55, sheet_Mean_ctr), (56, sheet_Check_ctr), (57, R_Power_ctr), (58, R_LabErr_ctr)]
def law_SheetMeans_ctr : Ctr := ⟨(.pair (.agg (.pair (.int .i64) (.pair (.int .i64) (.list (.int .u8))))) (.pair (.int .i64) (.pair (.list (.pair (.int .i64) (.pair (.int .i64) (.int .i64)))) .unit))), (.pair .bool .unit), law_SheetMeans_r, 13⟩
theorem law_SheetMeans_ok : CtrOk Try.prog 13 law_SheetMeans_ctr := ctr_ok (l := law_SheetMeans_dc) (f := 12) (an := law_SheetMeans_an) ⟨R_Within_ok, ⟨law_none_ok, ⟨R_Mod_ok, ⟨R_Round_ok, ⟨law_sheetWorks_ok, ⟨R_MaskErr_ok, ⟨sheet_Mean_ok, ⟨sheet_Check_ok, ⟨R_Power_ok, ⟨R_LabErr_ok, trivial⟩⟩⟩⟩⟩⟩⟩⟩⟩⟩ fun fu x => by kernel_rfl
end Go.Proofs.Ytnbmldnahacnlaa
/- Plain facts for residual programs. No program in sight. -/
namespace Go.Proofs.Ytnbmldnahacnlaa
open Go Go.RowKit
theorem loopF_spec {α β : Type} {f : (α → Option β) → α → Option β} (μ : α → Nat) (I : α → Prop) (S : α → Option β) (h : ∀ j x, I x → (∀ x', I x' → μ x' < μ x → j x' = S x') → f j x = S x) : ∀ (fu : Nat) (x : α), I x → μ x < fu → loopF f fu x = S x
  | 0, _, _, h0 => absurd h0 (Nat.not_lt_zero _)
  | fu + 1, x, hI, hm => by
    rw [loopF]
    exact h _ x hI fun x' h1 h2 => loopF_spec μ I S h fu x' h1 (by omega)
theorem bif_pos {α : Type} {p : Prop} [Decidable p] {a b : α} (h : p) : (bif decide p then a else b) = a := by rw [decide_eq_true h]; rfl
theorem bif_neg {α : Type} {p : Prop} [Decidable p] {a b : α} (h : ¬ p) : (bif decide p then a else b) = b := by rw [decide_eq_false h]; rfl
theorem bif_and {α : Type} {p q : Prop} [Decidable p] [Decidable q] {a b : α} (h : p) (k : q) : (bif decide p && decide q then a else b) = a := by rw [decide_eq_true h, decide_eq_true k]; rfl
theorem bif_nand {α : Type} {p q : Prop} [Decidable p] [Decidable q] {a b : α} (h : ¬ (p ∧ q)) : (bif decide p && decide q then a else b) = b := by
  by_cases hp : p
  · rw [decide_eq_false (fun hq => h ⟨hp, hq⟩ : ¬ q), Bool.and_false]; rfl
  · rw [decide_eq_false hp]; rfl
theorem joinF_eq {α β : Type} (J : α → Option β) (b : (α → Option β) → Option β) : joinF J b = b J := rfl
theorem bindO_some {α β : Type} (x : α) (k : α → Option β) : bindO (some x) k = k x := rfl
/-- the fuel -/
def FU : Nat := 18446744073709551616
theorem FU_val : FU = 18446744073709551616 := rfl
/-! ### What is left of a loop -/
def allFrom (p : Nat → Bool) (n i : Nat) : Bool := (List.range' i (n - i)).all p
theorem allFrom_lt {p : Nat → Bool} {n i : Nat} (h : i < n) : allFrom p n i = (p i && allFrom p n (i + 1)) := by
  unfold allFrom
  rw [show n - i = (n - (i + 1)) + 1 by omega, List.range'_succ, List.all_cons]
theorem allFrom_ge {p : Nat → Bool} {n i : Nat} (h : n ≤ i) : allFrom p n i = true := by
  unfold allFrom
  rw [show n - i = 0 by omega]; rfl
theorem allFrom_zero (p : Nat → Bool) (n : Nat) : allFrom p n 0 = (List.range n).all p := by
  unfold allFrom
  rw [Nat.sub_zero, List.range_eq_range']
def cntFrom (p : Nat → Bool) (n i : Nat) : Nat := (List.range' i (n - i)).countP p
theorem cntFrom_lt {p : Nat → Bool} {n i : Nat} (h : i < n) : cntFrom p n i = (bif p i then 1 else 0) + cntFrom p n (i + 1) := by
  unfold cntFrom
  rw [show n - i = (n - (i + 1)) + 1 by omega, List.range'_succ, List.countP_cons]
  cases p i <;> simp <;> omega
theorem cntFrom_ge {p : Nat → Bool} {n i : Nat} (h : n ≤ i) : cntFrom p n i = 0 := by
  unfold cntFrom
  rw [show n - i = 0 by omega]; rfl
theorem cntFrom_le (p : Nat → Bool) (n i : Nat) : cntFrom p n i ≤ n - i := by
  unfold cntFrom
  have := List.countP_le_length (p := p) (l := List.range' i (n - i))
  simpa using this
def sumFrom (p : Nat → Nat) (n i : Nat) : Nat := ((List.range' i (n - i)).map p).sum
theorem sumFrom_lt {p : Nat → Nat} {n i : Nat} (h : i < n) : sumFrom p n i = p i + sumFrom p n (i + 1) := by
  unfold sumFrom
  rw [show n - i = (n - (i + 1)) + 1 by omega, List.range'_succ, List.map_cons, List.sum_cons]
theorem sumFrom_ge {p : Nat → Nat} {n i : Nat} (h : n ≤ i) : sumFrom p n i = 0 := by
  unfold sumFrom
  rw [show n - i = 0 by omega]; rfl
def foldFrom {σ : Type} (f : σ → Nat → σ) (n i : Nat) (s : σ) : σ := (List.range' i (n - i)).foldl f s
theorem foldFrom_lt {σ : Type} {f : σ → Nat → σ} {n i : Nat} {s : σ} (h : i < n) : foldFrom f n i s = foldFrom f n (i + 1) (f s i) := by
  unfold foldFrom
  rw [show n - i = (n - (i + 1)) + 1 by omega, List.range'_succ, List.foldl_cons]
theorem foldFrom_ge {σ : Type} {f : σ → Nat → σ} {n i : Nat} {s : σ} (h : n ≤ i) : foldFrom f n i s = s := by
  unfold foldFrom
  rw [show n - i = 0 by omega]; rfl
end Go.Proofs.Ytnbmldnahacnlaa
/- Plain facts on whole numbers: rounding, floor division. No program in sight. -/
namespace Go.Proofs.Ytnbmldnahacnlaa

/-- n/d rounded half up -/
def rnd (n d : Int) : Int := (2 * n + d) / (2 * d)

theorem div_uniq {a b q r : Int} (hb : 0 < b) (h : r + b * q = a) (h0 : 0 ≤ r) (h1 : r < b) : a / b = q :=
  ((Int.ediv_emod_unique hb).2 ⟨h, h0, h1⟩).1

theorem tdiv_neg {a b : Int} (hb : 0 < b) (h : a.tmod b < 0) : a.tdiv b - 1 = a / b := by
  have h1 := Int.tmod_add_mul_tdiv a b
  have h2 : -b < a.tmod b := by
    have := Int.lt_tmod_of_pos a hb
    omega
  refine (div_uniq (r := a.tmod b + b) hb ?_ (by omega) (by omega)).symm
  rw [Int.mul_sub]; omega

theorem tdiv_pos {a b : Int} (hb : 0 < b) (h : 0 ≤ a.tmod b) : a.tdiv b = a / b := by
  have h1 := Int.tmod_add_mul_tdiv a b
  have h2 : a.tmod b < b := Int.tmod_lt_of_pos a hb
  exact (div_uniq (r := a.tmod b) hb (by omega) (by omega) (by omega)).symm

theorem tdiv_over {a b : Int} (hb : 0 < b) (h : a < a.tdiv b * b) : a.tdiv b - 1 = a / b := by
  have h1 := Int.tmod_add_mul_tdiv a b
  refine tdiv_neg hb ?_
  rw [Int.mul_comm] at h1; omega

theorem tdiv_under {a b : Int} (hb : 0 < b) (h : a.tdiv b * b ≤ a) : a.tdiv b = a / b := by
  have h1 := Int.tmod_add_mul_tdiv a b
  refine tdiv_pos hb ?_
  rw [Int.mul_comm] at h1; omega

/-- the reference's way of rounding -/
theorem rnd_up {n d : Int} (hd : 0 < d) (h : d ≤ 2 * (n - n / d * d)) : n / d + 1 = rnd n d := by
  have h1 := Int.emod_add_mul_ediv n d
  have h2 := Int.emod_lt_of_pos n hd
  have h3 := Int.emod_nonneg n (by omega : d ≠ 0)
  rw [Int.mul_comm] at h1
  refine (div_uniq (r := 2 * (n % d) - d) (by omega) ?_ (by omega) (by omega)).symm
  have e : 2 * d * (n / d + 1) = 2 * (n / d * d) + 2 * d := by rw [Int.mul_add, Int.mul_assoc, Int.mul_comm d]; omega
  omega

theorem rnd_down {n d : Int} (hd : 0 < d) (h : 2 * (n - n / d * d) < d) : n / d = rnd n d := by
  have h1 := Int.emod_add_mul_ediv n d
  have h2 := Int.emod_lt_of_pos n hd
  have h3 := Int.emod_nonneg n (by omega : d ≠ 0)
  rw [Int.mul_comm] at h1
  refine (div_uniq (r := 2 * (n % d) + d) (by omega) ?_ (by omega) (by omega)).symm
  have e : 2 * d * (n / d) = 2 * (n / d * d) := by rw [Int.mul_assoc, Int.mul_comm d]
  omega

theorem div_bound {n d a b : Int} (hd : 0 < d) (h1 : a * d ≤ n) (h2 : n ≤ b * d) : a ≤ n / d ∧ n / d ≤ b := by
  constructor
  · exact (Int.le_ediv_iff_mul_le hd).2 h1
  · have := Int.ediv_le_ediv hd h2
    rwa [Int.mul_ediv_cancel _ (by omega)] at this

theorem div_abs {n d m : Int} (hd : 0 < d) (h1 : -m ≤ n) (h2 : n ≤ m) (hm : 0 ≤ m) : -m ≤ n / d ∧ n / d ≤ m := by
  refine div_bound hd ?_ ?_
  · have : m * 1 ≤ m * d := Int.mul_le_mul_of_nonneg_left (by omega) hm
    rw [Int.neg_mul]; omega
  · have : m * 1 ≤ m * d := Int.mul_le_mul_of_nonneg_left (by omega) hm
    omega

theorem tdiv_abs {n m : Int} (d : Int) (h1 : -m ≤ n) (h2 : n ≤ m) : -m ≤ n.tdiv d ∧ n.tdiv d ≤ m := by
  have := Int.natAbs_tdiv_le_natAbs n d
  omega

theorem mul_bd {a b m n : Int} (h0 : 0 ≤ a) (h1 : a ≤ m) (h2 : 0 ≤ b) (h3 : b ≤ n) : 0 ≤ a * b ∧ a * b ≤ m * n :=
  ⟨Int.mul_nonneg h0 h2, Int.mul_le_mul h1 h3 h2 (by omega)⟩
theorem rnd_bd {n d m : Int} (hd : 0 < d) (h0 : 0 ≤ n) (h1 : n ≤ m) : 0 ≤ rnd n d ∧ rnd n d ≤ m + 1 := by
  unfold rnd
  have hd2 : 0 < 2 * d := by omega
  refine ⟨Int.ediv_nonneg (by omega) (by omega), ?_⟩
  have h2 : m * 1 ≤ m * d := Int.mul_le_mul_of_nonneg_left (by omega) (by omega)
  refine (div_bound (a := 0) (b := m + 1) hd2 (by omega) ?_).2
  rw [Int.add_mul, Int.mul_left_comm]
  omega

end Go.Proofs.Ytnbmldnahacnlaa
/- Bits of bytes, bitmaps as lists of bytes. No program in sight. -/
namespace Go.Proofs.Ytnbmldnahacnlaa
open Go Go.RowKit

/-- the pixel j of a byte, from the left -/
def bitAt (v : Int) (j : Nat) : Bool := v / 2 ^ (7 - j) % 2 == 1
theorem fin_byte {p : Int → Prop} (h : ∀ v : Fin 256, p (v.val : Int)) {v : Int} (h0 : 0 ≤ v) (h1 : v ≤ 255) : p v := by
  have := h ⟨v.toNat, by omega⟩
  rwa [show ((⟨v.toNat, by omega⟩ : Fin 256).val : Int) = v from Int.toNat_of_nonneg h0] at this
theorem shl_bit {v : Int} (h0 : 0 ≤ v) (h1 : v ≤ 255) {k : Nat} (hk : k < 8) : bits .and .u8 (IntKind.wrap .u8 (v * 2 ^ k)) 128 = (if bitAt v k = true then 128 else 0) :=
  fin_byte (p := fun v => ∀ k : Fin 8, bits .and .u8 (IntKind.wrap .u8 (v * 2 ^ k.val)) 128 = (if bitAt v k.val = true then 128 else 0)) (by decide +kernel) h0 h1 ⟨k, hk⟩
theorem and_mask {v : Int} (h0 : 0 ≤ v) (h1 : v ≤ 255) {k : Nat} (hk : k < 8) : bits .and .u8 v (128 / 2 ^ k) = (if bitAt v k = true then 128 / 2 ^ k else 0) :=
  fin_byte (p := fun v => ∀ k : Fin 8, bits .and .u8 v (128 / 2 ^ k.val) = (if bitAt v k.val = true then 128 / 2 ^ k.val else 0)) (by decide +kernel) h0 h1 ⟨k, hk⟩
theorem mask_ne {k : Nat} (hk : k < 8) : (128 : Int) / 2 ^ k ≠ 0 := (show ∀ k : Fin 8, (128 : Int) / 2 ^ k.val ≠ 0 by decide) ⟨k, hk⟩
/-- the lowest u bits of a byte -/
def lowOk (v : Int) (u : Nat) : Bool := v % 2 ^ u == 0
theorem and_low {v : Int} (h0 : 0 ≤ v) (h1 : v ≤ 255) {u : Nat} (hu : u < 8) : bits .and .u8 v (2 ^ u - 1) = v % 2 ^ u :=
  fin_byte (p := fun v => ∀ u : Fin 8, bits .and .u8 v (2 ^ u.val - 1) = v % 2 ^ u.val) (by decide +kernel) h0 h1 ⟨u, hu⟩
theorem low_bits {v : Int} (h0 : 0 ≤ v) (h1 : v ≤ 255) {u : Nat} (hu : u < 8) : lowOk v u = true ↔ ∀ k, k < 8 → 8 - u ≤ k → bitAt v k = false := by
  have h := fin_byte (p := fun v => ∀ u : Fin 8, lowOk v u.val = true ↔ ∀ k : Fin 8, 8 - u.val ≤ k.val → bitAt v k.val = false) (by decide +kernel) h0 h1 ⟨u, hu⟩
  exact h.trans ⟨fun g k hk hu => g ⟨k, hk⟩ hu, fun g k hu => g k.val k.isLt hu⟩
theorem wrap_pow {u : Nat} (hu : u < 8) : IntKind.wrap .u8 (IntKind.wrap .u8 (1 * 2 ^ u) - 1) = 2 ^ u - 1 := (show ∀ u : Fin 8, IntKind.wrap .u8 (IntKind.wrap .u8 (1 * 2 ^ u.val) - 1) = 2 ^ u.val - 1 by decide +kernel) ⟨u, hu⟩
/-- bytes -/
def Bytes (ds : List Int) : Prop := ∀ d ∈ ds, 0 ≤ d ∧ d ≤ 255
/-- a row's bytes -/
def strideN (w : Nat) : Nat := (w + 7) / 8
def tailOk (w h : Nat) (ds : List Int) : Bool := (List.range h).all fun y => lowOk (ds.getD (y * strideN w + strideN w - 1) 0) (8 * strideN w - w)
def bitsE (w h : Int) (ds : List Int) : Int := if 1 ≤ w ∧ w ≤ 1024 ∧ 1 ≤ h ∧ h ≤ 1024 then (if ds.length = strideN w.toNat * h.toNat then (if tailOk w.toNat h.toNat ds = true then 0 else 4) else 4) else 3
/-- no pixel beyond a row's end, byte by byte -/
def pixOk (w n i : Nat) (d : Int) (k : Nat) : Bool := !(decide (w ≤ i % n * 8 + k) && bitAt d k)
def byteOk (w n i : Nat) (d : Int) : Bool := (List.range 8).all (pixOk w n i d)
def rowsOk (w n : Nat) (ds : List Int) (m : Nat) : Bool := (List.range m).all fun i => byteOk w n i (ds.getD i 0)
theorem rows_tail {w h : Nat} {ds : List Int} (hb : Bytes ds) (hw : 1 ≤ w) (hl : ds.length = strideN w * h) : rowsOk w (strideN w) ds ds.length = tailOk w h ds := by
  have hn : 1 ≤ strideN w ∧ w ≤ 8 * strideN w ∧ 8 * strideN w ≤ w + 7 := by unfold strideN; omega
  unfold tailOk
  generalize strideN w = n at *
  obtain ⟨n0, n2, n3⟩ := hn
  have hg : ∀ i, i < ds.length → 0 ≤ ds.getD i 0 ∧ ds.getD i 0 ≤ 255 := fun i hi => by
    rw [List.getD_eq_getElem?_getD, List.getElem?_eq_getElem hi]
    exact hb _ (List.getElem_mem hi)
  rw [Bool.eq_iff_iff]
  constructor
  · intro ha
    refine List.all_eq_true.2 fun y hy => ?_
    have hy := List.mem_range.1 hy
    have h1 : (y + 1) * n ≤ h * n := Nat.mul_le_mul_right n hy
    rw [Nat.add_mul, Nat.one_mul, Nat.mul_comm h n] at h1
    have hi : y * n + n - 1 < ds.length := by omega
    have hmod : (y * n + n - 1) % n = n - 1 := by
      rw [show y * n + n - 1 = (n - 1) + n * y by rw [Nat.mul_comm y n]; omega, Nat.add_mul_mod_self_left, Nat.mod_eq_of_lt (by omega)]
    have hrow := List.all_eq_true.1 ha (y * n + n - 1) (List.mem_range.2 hi)
    obtain ⟨g0, g1⟩ := hg _ hi
    refine (low_bits g0 g1 (u := 8 * n - w) (by omega)).2 fun k hk hu => ?_
    have := List.all_eq_true.1 hrow k (List.mem_range.2 hk)
    unfold pixOk at this
    rw [hmod, show decide (w ≤ (n - 1) * 8 + k) = true by simp; omega] at this
    simpa using this
  · intro ha
    refine List.all_eq_true.2 fun i hi => List.all_eq_true.2 fun k hk => ?_
    have hi := List.mem_range.1 hi
    have hk := List.mem_range.1 hk
    unfold pixOk
    by_cases hw : w ≤ i % n * 8 + k
    · have hm : i % n < n := Nat.mod_lt _ (by omega)
      have hmod : i % n = n - 1 := by omega
      have hdm := Nat.div_add_mod i n
      have hy : i / n < h := by
        apply Nat.div_lt_of_lt_mul
        omega
      have hrow := List.all_eq_true.1 ha (i / n) (List.mem_range.2 hy)
      have he : i / n * n + n - 1 = i := by rw [Nat.mul_comm]; omega
      rw [he] at hrow
      obtain ⟨g0, g1⟩ := hg _ hi
      have := (low_bits g0 g1 (u := 8 * n - w) (by omega)).1 hrow k hk (by omega)
      rw [this]
      simp
    · rw [show decide (w ≤ i % n * 8 + k) = false by simp; omega]
      rfl
end Go.Proofs.Ytnbmldnahacnlaa
/- SheetMeans: what the functions that it calls compute. -/
namespace Go.Proofs.Ytnbmldnahacnlaa
open Go Go.RowKit

theorem within_s (fu : Nat) (x lo hi : Int) : R_Within_r fu (x, (lo, (hi, ()))) = some (decide (lo ≤ x ∧ x ≤ hi), ()) := by
  unfold R_Within_r
  by_cases h : lo ≤ x
  · rw [bif_pos h]
    by_cases h' : x ≤ hi
    · rw [decide_eq_true h', decide_eq_true ⟨h, h'⟩]
    · rw [decide_eq_false h', decide_eq_false (by omega)]
  · rw [bif_neg h, decide_eq_false (by omega)]
theorem none_s (fu : Nat) (z : Bool) (g w : Int) : law_none_r fu (z, (g, (w, ()))) = some (z && decide (g = w), ()) := by
  unfold law_none_r
  cases z <;> rfl
def maskR (w h : Int) (px : List Int) : Int := if 1 ≤ w ∧ w ≤ 1024 ∧ 1 ≤ h ∧ h ≤ 1024 then (if (px.length : Int) = w * h then 0 else 4) else 3
theorem wh_bd {w h : Int} (h1 : 1 ≤ w) (h2 : w ≤ 1024) (h3 : 1 ≤ h) (h4 : h ≤ 1024) : 1 ≤ w * h ∧ w * h ≤ 1048576 := by
  have a := Int.mul_le_mul h2 h4 (by omega) (by omega)
  have b : 0 < w * h := Int.mul_pos (by omega) (by omega)
  omega
theorem maskErr_s (fu : Nat) (w h : Int) (px : List Int) : R_MaskErr_r fu ((w, (h, px)), ()) = some (maskR w h px, ()) := by
  unfold R_MaskErr_r maskR
  simp only [joinF_eq, within_s, bindO_some]
  by_cases h1 : 1 ≤ w ∧ w ≤ 1024
  · rw [decide_eq_true h1]
    by_cases h2 : 1 ≤ h ∧ h ≤ 1024
    · rw [decide_eq_true h2, if_pos (by omega)]
      obtain ⟨g1, g2⟩ := wh_bd h1.1 h1.2 h2.1 h2.2
      show R_MaskErr_j1 fu ((w, (h, px)), ()) false = _
      unfold R_MaskErr_j1
      simp only [cond_false]
      rw [wr64 (x := w * h) (by omega) (by omega)]
      by_cases h3 : (px.length : Int) = w * h
      · rw [bif_neg (by simpa using h3), if_pos h3]
      · rw [bif_pos h3, if_neg h3]
    · rw [decide_eq_false h2, if_neg (by omega)]; rfl
  · rw [decide_eq_false h1, if_neg (by omega)]; rfl
theorem maskChk_s (fu : Nat) (w h : Int) (px : List Int) : sheet_Check_r fu ((w, (h, px)), ()) = some (maskR w h px, ()) := by
  unfold sheet_Check_r maskR
  simp only [joinF_eq]
  by_cases h1 : w < 1
  · rw [bif_pos h1, if_neg (by omega)]; rfl
  rw [bif_neg h1]
  by_cases h2 : 1024 < w
  · rw [bif_pos h2, if_neg (by omega)]; rfl
  rw [bif_neg h2]
  by_cases h3 : h < 1
  · rw [bif_pos h3, if_neg (by omega)]; rfl
  rw [bif_neg h3]
  by_cases h4 : 1024 < h
  · rw [decide_eq_true h4, if_neg (by omega)]; rfl
  rw [decide_eq_false h4, if_pos (by omega)]
  obtain ⟨g1, g2⟩ := wh_bd (w := w) (h := h) (by omega) (by omega) (by omega) (by omega)
  unfold sheet_Check_j1
  simp only [cond_false]
  rw [wr64 (x := w * h) (by omega) (by omega)]
  by_cases h5 : (px.length : Int) = w * h
  · rw [bif_neg (by simpa using h5), if_pos h5]
  · rw [bif_pos h5, if_neg h5]
def labR (c : Int × Int × Int) : Int := if 0 ≤ c.1 ∧ c.1 ≤ 10000 ∧ -12800 ≤ c.2.1 ∧ c.2.1 ≤ 12800 ∧ -12800 ≤ c.2.2 ∧ c.2.2 ≤ 12800 then 0 else 3
theorem labR_or (c : Int × Int × Int) : (labR c = 0 ∧ 0 ≤ c.1 ∧ c.1 ≤ 10000 ∧ -12800 ≤ c.2.1 ∧ c.2.1 ≤ 12800 ∧ -12800 ≤ c.2.2 ∧ c.2.2 ≤ 12800) ∨ labR c = 3 := by
  unfold labR
  split
  · rename_i h; exact .inl ⟨rfl, h⟩
  · exact .inr rfl
theorem labErr_s (fu : Nat) (c : Int × Int × Int) : R_LabErr_r fu ((c.1, (c.2.1, c.2.2)), ()) = some (labR c, ()) := by
  obtain ⟨l, a, b⟩ := c
  unfold R_LabErr_r labR
  simp only [joinF_eq, within_s, bindO_some]
  by_cases h1 : 0 ≤ l ∧ l ≤ 10000
  · rw [decide_eq_true h1]
    by_cases h2 : -12800 ≤ a ∧ a ≤ 12800
    · rw [decide_eq_true h2]
      by_cases h3 : -12800 ≤ b ∧ b ≤ 12800
      · rw [decide_eq_true h3, if_pos (by omega)]; rfl
      · rw [decide_eq_false h3, if_neg (by omega)]; rfl
    · rw [decide_eq_false h2, if_neg (by omega)]; rfl
  · rw [decide_eq_false h1, if_neg (by omega)]; rfl
theorem refChk_s (fu : Nat) (c : Int × Int × Int) : refspace_Check_r fu ((c.1, (c.2.1, c.2.2)), ()) = some (labR c, ()) := by
  obtain ⟨l, a, b⟩ := c
  unfold refspace_Check_r labR
  simp only [joinF_eq]
  by_cases h1 : l < 0
  · rw [bif_pos h1, if_neg (by omega)]; rfl
  rw [bif_neg h1]
  by_cases h2 : 10000 < l
  · rw [bif_pos h2, if_neg (by omega)]; rfl
  rw [bif_neg h2]
  by_cases h3 : a < -12800
  · rw [bif_pos h3, if_neg (by omega)]; rfl
  rw [bif_neg h3]
  by_cases h4 : 12800 < a
  · rw [bif_pos h4, if_neg (by omega)]; rfl
  rw [bif_neg h4]
  by_cases h5 : b < -12800
  · rw [bif_pos h5, if_neg (by omega)]; rfl
  rw [bif_neg h5]
  by_cases h6 : 12800 < b
  · rw [decide_eq_true h6, if_neg (by omega)]; rfl
  rw [decide_eq_false h6, if_pos (by omega)]; rfl
theorem floor_s (fu : Nat) {n d : Int} (hd : 0 < d) (h1 : d ≤ 1000000000000000) (h2 : -9223372036854775808 ≤ n) (h3 : n ≤ 9223372036854775807) : R_Floor_r fu (n, (d, ())) = some (n / d, ()) := by
  unfold R_Floor_r
  simp only [joinF_eq]
  rw [bif_pos (by omega)]
  have hm := Int.tmod_add_mul_tdiv n d
  have hm1 := Int.natAbs_tmod n d
  have h4 : n.tdiv d * d = n - n.tmod d := by rw [Int.mul_comm]; omega
  have h5 : (n.tmod d).natAbs ≤ n.natAbs := by rw [hm1]; exact Nat.mod_le _ _
  have hb : -9223372036854775808 ≤ n.tdiv d * d ∧ n.tdiv d * d ≤ 9223372036854775807 := by
    rcases Int.le_total 0 n with hn | hn
    · have := Int.tmod_nonneg d hn; omega
    · have := Int.tmod_nonneg (a := -n) d (by omega)
      rw [Int.neg_tmod] at this
      omega
  obtain ⟨b1, b2⟩ := hb
  have hq := Int.natAbs_tdiv n d
  have hq' : (n.tdiv d).natAbs ≤ n.natAbs := by rw [hq]; exact Nat.div_le_self _ _
  have hq3 : n.tdiv d ≤ 9223372036854775807 := by
    rcases Int.le_total 0 n with hn | hn
    · omega
    · have := Int.tdiv_nonneg (a := -n) (b := d) (by omega) (by omega)
      rw [Int.neg_tdiv] at this
      omega
  rw [wr64 (x := n.tdiv d) (by omega) hq3, wr64 (x := n.tdiv d * d) b1 b2]
  by_cases hc : n < n.tdiv d * d
  · have hlow : -9223372036854775807 ≤ n.tdiv d := by
      rcases Int.lt_or_le d 2 with g | g
      · obtain rfl : d = 1 := by omega
        rw [Int.tdiv_one] at hc
        omega
      · have h6 : (n.tdiv d).natAbs ≤ n.natAbs / 2 := by
          rw [hq]
          exact Nat.div_le_div_left (by omega) (by omega)
        omega
    rw [bif_pos hc, wr64 (x := n.tdiv d - 1) (by omega) (by omega), tdiv_over hd hc]; rfl
  · rw [bif_neg hc, tdiv_under hd (by omega)]; rfl
theorem floor_mul' {n d : Int} (hd : 0 < d) : n / d * d ≤ n ∧ n < n / d * d + d := by
  have h1 := Int.mul_ediv_add_emod n d
  have h2 := Int.emod_nonneg n (by omega : d ≠ 0)
  have h3 := Int.emod_lt_of_pos n hd
  rw [Int.mul_comm] at h1
  omega
theorem mod_s (fu : Nat) {n d : Int} (hd : 0 < d) (h1 : d ≤ 1000000000000000) (h2 : -9223372036854775808 ≤ n) (h3 : n ≤ 9223372036854775807) : R_Mod_r fu (n, (d, ())) = some (n % d, ()) := by
  unfold R_Mod_r
  simp only
  rw [floor_s fu hd h1 h2 h3]
  simp only [bindO_some]
  obtain ⟨b1, b2⟩ := floor_mul' (n := n) hd
  rw [Int.mul_comm] at b1 b2
  have he := Int.emod_def n d
  have hm2 : IntKind.i64.wrap (n - IntKind.i64.wrap (d * (n / d))) = n % d := by
    rw [IntKind.wrap_i64, IntKind.wrap_i64, he]
    omega
  rw [hm2]
theorem round_s (fu : Nat) {n d : Int} (hd : 0 < d) (h1 : d ≤ 1000000000000000) (h2 : -1000000000000000000 ≤ n) (h3 : n ≤ 1000000000000000000) : R_Round_r fu (n, (d, ())) = some (rnd n d, ()) := by
  unfold R_Round_r
  simp only
  rw [floor_s fu hd h1 (by omega) (by omega)]
  simp only [bindO_some, joinF_eq]
  obtain ⟨b1, b2⟩ := floor_mul' (n := n) hd
  have hq : -1000000000000000001 ≤ n / d ∧ n / d ≤ 1000000000000000000 := by
    constructor
    · rcases Int.lt_or_le (n / d) 0 with g | g
      · have : n / d * d ≤ n / d * 1 := Int.mul_le_mul_of_nonpos_left (by omega) (by omega)
        have h4 : n / d * d - n / d * 1 ≤ 0 := by omega
        have h5 : (n / d + 1) * d ≤ (n / d + 1) * 1 := Int.mul_le_mul_of_nonpos_left (by omega) (by omega)
        rw [Int.add_mul] at h5
        omega
      · omega
    · rcases Int.lt_or_le (n / d) 1 with g | g
      · omega
      · have : n / d * 1 ≤ n / d * d := Int.mul_le_mul_of_nonneg_left (by omega) (by omega)
        omega
  rw [wr64 (x := n / d * d) (by omega) (by omega), wr64 (x := n - n / d * d) (by omega) (by omega), wr64 (x := 2 * (n - n / d * d)) (by omega) (by omega)]
  by_cases hc : d ≤ 2 * (n - n / d * d)
  · rw [bif_pos hc, wr64 (x := n / d + 1) (by omega) (by omega), rnd_up hd hc]; rfl
  · rw [bif_neg hc, rnd_down hd (by omega)]; rfl
theorem nearest_s (fu : Nat) {n d : Int} (hd : 0 < d) (h1 : d ≤ 1000000000000000) (h2 : -1000000000000000000 ≤ n) (h3 : n ≤ 1000000000000000000) : curve_Nearest_r fu (n, (d, ())) = some (rnd n d, ()) := by
  obtain ⟨g1, g2⟩ := tdiv_abs (n := 2 * n + d) (m := 2002000000000000000) (2 * d) (by omega) (by omega)
  unfold curve_Nearest_r rnd
  simp only [joinF_eq]
  rw [wr64 (x := 2 * n) (by omega) (by omega), wr64 (x := 2 * n + d) (by omega) (by omega), wr64 (x := 2 * d) (by omega) (by omega), bif_pos (by omega), bif_pos (by omega), wr64 (x := (2 * n + d).tdiv (2 * d)) (by omega) (by omega)]
  by_cases hc : (2 * n + d).tmod (2 * d) < 0
  · rw [bif_pos hc, wr64 (x := (2 * n + d).tdiv (2 * d) - 1) (by omega) (by omega), tdiv_neg (by omega) hc]; rfl
  · rw [bif_neg hc, tdiv_pos (by omega) (by omega)]; rfl
theorem power_s {fu : Nat} (hf : 18446744073709551616 ≤ fu) {k : Int} (h0 : 0 ≤ k) (h1 : k ≤ 8) : R_Power_r fu (2, (k, ())) = some (2 ^ k.toNat, ()) := by
  obtain ⟨m, rfl⟩ : ∃ m, fu = m + 10 := ⟨fu - 10, by omega⟩
  clear hf
  have : k = 0 ∨ k = 1 ∨ k = 2 ∨ k = 3 ∨ k = 4 ∨ k = 5 ∨ k = 6 ∨ k = 7 ∨ k = 8 := by omega
  rcases this with h | h | h | h | h | h | h | h | h <;> subst h <;> rfl
end Go.Proofs.Ytnbmldnahacnlaa
/- SheetMeans: plain facts on counts and sums; the loops. -/
namespace Go.Proofs.Ytnbmldnahacnlaa
open Go Go.RowKit

def cntL (px : List Int) (N : Nat) : List Int := (List.range N).map fun v => ((px.countP fun d => d.toNat == v : Nat) : Int)
theorem cntL_len (px : List Int) (N : Nat) : (cntL px N).length = N := by simp [cntL]
theorem cntL_at (px : List Int) {N v : Nat} (h : v < N) : (cntL px N).getD v 0 = ((px.countP fun d => d.toNat == v : Nat) : Int) := by
  unfold cntL
  rw [List.getD_eq_getElem?_getD, List.getElem?_map, List.getElem?_range h]; rfl
theorem cntL_ge (px : List Int) {N v : Nat} (h : v < N) : 0 ≤ (cntL px N).getD v 0 ∧ (cntL px N).getD v 0 ≤ px.length := by
  rw [cntL_at px h]
  have := List.countP_le_length (p := fun d : Int => d.toNat == v) (l := px)
  omega
theorem ext_getD {l m : List Int} (h1 : l.length = m.length) (h2 : ∀ i, i < l.length → l.getD i 0 = m.getD i 0) : l = m := by
  apply List.ext_getElem h1
  intro i g1 g2
  have := h2 i g1
  rw [List.getD_eq_getElem?_getD, List.getD_eq_getElem?_getD, List.getElem?_eq_getElem g1, List.getElem?_eq_getElem g2] at this
  exact this
theorem set_getD (l : List Int) (i j : Nat) (x : Int) (h : j < l.length) : (l.set i x).getD j 0 = if i = j then x else l.getD j 0 := by
  rw [List.getD_eq_getElem?_getD, List.getElem?_set]
  by_cases e : i = j
  · subst e; rw [if_pos rfl, if_pos h, if_pos rfl]; rfl
  · rw [if_neg e, if_neg e, List.getD_eq_getElem?_getD]
theorem cntL_snoc (px : List Int) {d : Int} {N : Nat} (h : d.toNat < N) : (cntL px N).set d.toNat ((cntL px N).getD d.toNat 0 + 1) = cntL (px ++ [d]) N := by
  refine ext_getD (by simp [cntL_len]) fun i hi => ?_
  rw [List.length_set, cntL_len] at hi
  rw [set_getD _ _ _ _ (by rw [cntL_len]; exact hi), cntL_at _ hi, cntL_at _ hi, List.countP_append]
  by_cases e : d.toNat = i
  · subst e; rw [if_pos rfl, cntL_at _ h]; simp
  · rw [if_neg e, List.countP_singleton]
    have : (d.toNat == i) = false := by simpa using e
    rw [this]; simp
theorem cntL_uncons (px : List Int) {d : Int} {N : Nat} (h : d.toNat < N) : (cntL (d :: px) N).set d.toNat ((cntL (d :: px) N).getD d.toNat 0 - 1) = cntL px N := by
  refine ext_getD (by simp [cntL_len]) fun i hi => ?_
  rw [List.length_set, cntL_len] at hi
  rw [set_getD _ _ _ _ (by rw [cntL_len]; exact hi), cntL_at _ hi, cntL_at _ hi, List.countP_cons]
  by_cases e : d.toNat = i
  · subst e; rw [if_pos rfl, cntL_at _ h, List.countP_cons]; simp
  · rw [if_neg e]
    have : (d.toNat == i) = false := by simpa using e
    rw [this]; simp
theorem cntL_nil (N : Nat) : cntL [] N = List.replicate N 0 := by
  refine ext_getD (by simp [cntL_len]) fun i hi => ?_
  rw [cntL_len] at hi
  rw [cntL_at _ hi, List.getD_eq_getElem?_getD, List.getElem?_replicate, if_pos hi]; rfl
def allLt (px : List Int) (N : Int) : Bool := px.all fun d => decide (d < N)
theorem drop_cons {px : List Int} {i : Int} (h0 : 0 ≤ i) (h1 : i < px.length) : px.drop i.toNat = px.getD i.toNat 0 :: px.drop (i + 1).toNat ∧ px.take (i + 1).toNat = px.take i.toNat ++ [px.getD i.toNat 0] ∧ px.getD i.toNat 0 ∈ px := by
  have hi : i.toNat < px.length := by omega
  have e : px.getD i.toNat 0 = px[i.toNat] := by rw [List.getD_eq_getElem?_getD, List.getElem?_eq_getElem hi]; rfl
  have e2 : (i + 1).toNat = i.toNat + 1 := by omega
  rw [e, e2]
  exact ⟨List.drop_eq_getElem_cons hi, (List.take_append_getElem hi).symm, List.getElem_mem hi⟩
theorem take_all {px : List Int} {i : Int} (h : i = px.length) : px.take i.toNat = px := List.take_of_length_le (by omega)
def cntB {β : Type} (px : List Int) (j1 j5 : Int × List Int → Option β) (v5 : Int × List Int) : Option β :=
  bif (decide (v5.1 < (List.length px : Int))) then
    bif ((decide ((0 : Int) ≤ v5.1)) && (decide (v5.1 < (List.length px : Int)))) then
    let v6 : Int := (List.getD px (Int.toNat v5.1) 0)
    bif (decide ((List.length v5.2 : Int) ≤ (IntKind.i64.wrap v6))) then
      j1 (((4 : Int), ([] : List (Int))))
    else
    bif ((decide ((0 : Int) ≤ v6)) && (decide (v6 < (List.length v5.2 : Int)))) then
    bif ((decide ((0 : Int) ≤ v6)) && (decide (v6 < (List.length v5.2 : Int)))) then
    j5 (((IntKind.i64.wrap (v5.1 + (1 : Int))), (List.set v5.2 (Int.toNat v6) (IntKind.i64.wrap ((List.getD v5.2 (Int.toNat v6) 0) + (1 : Int))))))
    else none
    else none
    else none
  else
  j1 (((0 : Int), v5.2))
theorem cnt_loop {fu : Nat} (hf : 18446744073709551616 ≤ fu) {β : Type} {px : List Int} (hb : Bytes px) (hl : px.length ≤ 1048576) (j1 : Int × List Int → Option β) (N : Nat) : loopF (cntB px j1) fu (0, List.replicate N 0) = if allLt px N = true then j1 (0, cntL px N) else j1 (4, []) := by
  rw [← cntL_nil]
  refine loopF_spec (fun x : Int × List Int => ((px.length : Int) - x.1).toNat) (fun x => 0 ≤ x.1 ∧ x.1 ≤ px.length ∧ x.2 = cntL (px.take x.1.toNat) N ∧ allLt (px.take x.1.toNat) N = true) (fun _ => if allLt px N = true then j1 (0, cntL px N) else j1 (4, [])) ?_ fu (0, cntL [] N) ⟨by simp, by simp, by simp, by simp [allLt]⟩ (by simp; omega)
  rintro j ⟨i, l⟩ ⟨i0, i1, e1, e2⟩ hj
  simp only at i0 i1 e1 e2
  subst e1
  unfold cntB
  simp only [cntL_len]
  by_cases hi : i < px.length
  · obtain ⟨g1, g2, g3⟩ := drop_cons i0 hi
    obtain ⟨d0, d1⟩ := hb _ g3
    generalize px.getD i.toNat 0 = d at *
    rw [bif_pos hi, bif_and i0 hi, wr64 (x := d) (by omega) (by omega)]
    by_cases hd : (N : Int) ≤ d
    · rw [bif_pos hd, if_neg]
      intro h
      have := of_decide_eq_true (List.all_eq_true.1 h d g3)
      omega
    · have hc := cntL_ge (px.take i.toNat) (N := N) (v := d.toNat) (by omega)
      have ht : (px.take i.toNat).length ≤ px.length := by rw [List.length_take]; omega
      rw [bif_neg hd, bif_and d0 (by omega), bif_and d0 (by omega), wr64 (x := i + 1) (by omega) (by omega), wr64 (x := (cntL (px.take i.toNat) N).getD d.toNat 0 + 1) (by omega) (by omega), cntL_snoc _ (by omega), ← g2]
      refine hj _ ⟨by show 0 ≤ i + 1; omega, by show i + 1 ≤ _; omega, rfl, ?_⟩ (by show (((px.length : Int)) - (i + 1)).toNat < ((px.length : Int) - i).toNat; omega)
      show allLt (px.take (i + 1).toNat) N = true
      rw [g2]
      unfold allLt at *
      rw [List.all_append, e2]
      simp; omega
  · rw [bif_neg hi]
    have ei : i = px.length := by omega
    rw [take_all ei] at e2 ⊢
    rw [if_pos e2]
/-- the sum over the pixels below n -/
def psum (px : List Int) (g : Nat → Int) (n : Nat) : Int := (px.map fun d => if d.toNat < n then g d.toNat else 0).sum
theorem psum_snoc (px : List Int) (g : Nat → Int) (n : Nat) (d : Int) : psum (px ++ [d]) g n = psum px g n + (if d.toNat < n then g d.toNat else 0) := by
  unfold psum
  simp
theorem psum_bd {g : Nat → Int} {n : Nat} {M : Int} (hM : 0 ≤ M) (hg : ∀ v, v < n → -M ≤ g v ∧ g v ≤ M) : ∀ (px : List Int), -(M * px.length) ≤ psum px g n ∧ psum px g n ≤ M * px.length
  | [] => by simp [psum]
  | d :: px => by
    obtain ⟨h1, h2⟩ := psum_bd hM hg px
    have e : psum (d :: px) g n = (if d.toNat < n then g d.toNat else 0) + psum px g n := by unfold psum; simp
    have e2 : M * ((d :: px).length : Int) = M * px.length + M := by rw [List.length_cons, Int.natCast_add, Int.mul_add]; simp
    rw [e, e2]
    split
    · rename_i h; have := hg _ h; omega
    · omega
theorem psum_succ (g : Nat → Int) (n : Nat) : ∀ (px : List Int), psum px g (n + 1) = psum px g n + ((px.countP fun d => d.toNat == n : Nat) : Int) * g n
  | [] => by simp [psum]
  | d :: px => by
    have ih := psum_succ g n px
    have e : ∀ k, psum (d :: px) g k = (if d.toNat < k then g d.toNat else 0) + psum px g k := by intro k; unfold psum; simp
    rw [e, e, ih, List.countP_cons]
    by_cases h : d.toNat = n
    · have : (d.toNat == n) = true := by simpa using h
      rw [this, if_pos (by omega), if_neg (by omega), h, Int.natCast_add, Int.add_mul]
      simp; omega
    · have : (d.toNat == n) = false := by simpa using h
      rw [this]
      by_cases h' : d.toNat < n
      · rw [if_pos h', if_pos (by omega)]; simp; omega
      · rw [if_neg h', if_neg (by omega)]; simp
theorem psum_zero (px : List Int) (g : Nat → Int) : psum px g 0 = 0 := by
  unfold psum
  induction px with
  | nil => rfl
  | cons d px ih => rw [List.map_cons, List.sum_cons, ih]; simp
theorem psum_congr {px : List Int} {g h : Nat → Int} {n : Nat} (e : ∀ v, v < n → g v = h v) : psum px g n = psum px h n := by
  unfold psum
  congr 1
  refine List.map_congr_left fun d _ => ?_
  split
  · rename_i hd; rw [e _ hd]
  · rfl
def mx (px : List Int) : Int := px.foldl max 0
theorem mx_snoc (px : List Int) (d : Int) : mx (px ++ [d]) = max (mx px) d := by unfold mx; simp
theorem mx_lt {N : Int} (hN : 0 < N) (px : List Int) : mx px < N ↔ allLt px N = true := by
  have key : ∀ (px : List Int) (a : Int), px.foldl max a < N ↔ a < N ∧ allLt px N = true := by
    intro px
    induction px with
    | nil => intro a; simp [allLt]
    | cons d px ih =>
      intro a
      rw [List.foldl_cons, ih]
      unfold allLt
      rw [List.all_cons, Bool.and_eq_true, decide_eq_true_eq]
      constructor
      · rintro ⟨h1, h2⟩; exact ⟨by omega, by omega, h2⟩
      · rintro ⟨h1, h2, h3⟩; exact ⟨by omega, h3⟩
  unfold mx
  rw [key]
  exact ⟨fun h => h.2, fun h => ⟨hN, h⟩⟩
theorem mx_bd {px : List Int} (hb : Bytes px) : 0 ≤ mx px ∧ mx px ≤ 255 := by
  have key : ∀ (px : List Int) (a : Int), 0 ≤ a → a ≤ 255 → Bytes px → 0 ≤ px.foldl max a ∧ px.foldl max a ≤ 255 := by
    intro px
    induction px with
    | nil => intro a h1 h2 _; exact ⟨h1, h2⟩
    | cons d px ih =>
      intro a h1 h2 hb
      obtain ⟨d0, d1⟩ := hb d (by simp)
      exact ih _ (by omega) (by omega) fun x hx => hb x (by simp [hx])
  exact key px 0 (by omega) (by omega) hb
end Go.Proofs.Ytnbmldnahacnlaa
/- SheetMeans: what sheet.Mean computes. -/
namespace Go.Proofs.Ytnbmldnahacnlaa
open Go Go.RowKit

abbrev Lab3 : Type := Int × Int × Int
def szOf (n : Int) : Option Nat := (List.range 9).find? fun k => decide (n = 2 ^ k)
def allLab (cs : List Lab3) : Bool := cs.all fun c => decide (labR c = 0)
def gL (cs : List Lab3) (v : Nat) : Int := (cs.getD v (0, 0, 0)).1
def gA (cs : List Lab3) (v : Nat) : Int := (cs.getD v (0, 0, 0)).2.1
def gB (cs : List Lab3) (v : Nat) : Int := (cs.getD v (0, 0, 0)).2.2
def meanR (w h : Int) (px : List Int) (cs : List Lab3) : Lab3 × Int :=
  if maskR w h px = 0 then (match szOf cs.length with
    | some (_ + 1) => if allLab cs = true then (if allLt px cs.length = true then ((rnd (psum px (gL cs) cs.length) (w * h), rnd (psum px (gA cs) cs.length) (w * h), rnd (psum px (gB cs) cs.length) (w * h)), 0) else ((0, 0, 0), 4)) else ((0, 0, 0), 3)
    | _ => ((0, 0, 0), 4)) else ((0, 0, 0), maskR w h px)
theorem maskR_ok {w h : Int} {px : List Int} (hm : maskR w h px = 0) : 1 ≤ w ∧ w ≤ 1024 ∧ 1 ≤ h ∧ h ≤ 1024 ∧ (px.length : Int) = w * h ∧ 1 ≤ w * h ∧ w * h ≤ 1048576 := by
  unfold maskR at hm
  split at hm
  · rename_i h1
    split at hm
    · rename_i h2
      have := wh_bd h1.1 h1.2.1 h1.2.2.1 h1.2.2.2
      exact ⟨h1.1, h1.2.1, h1.2.2.1, h1.2.2.2, h2, this⟩
    · omega
  · omega
theorem lab_at {cs : List Lab3} (h : allLab cs = true) {v : Nat} (hv : v < cs.length) : labR (cs.getD v (0, 0, 0)) = 0 := by
  rw [List.getD_eq_getElem?_getD, List.getElem?_eq_getElem hv]
  exact of_decide_eq_true (List.all_eq_true.1 h _ (List.getElem_mem hv))
theorem lab_bd {cs : List Lab3} (h : allLab cs = true) {v : Nat} (hv : v < cs.length) : (-12800 ≤ gL cs v ∧ gL cs v ≤ 12800) ∧ (-12800 ≤ gA cs v ∧ gA cs v ≤ 12800) ∧ (-12800 ≤ gB cs v ∧ gB cs v ≤ 12800) := by
  unfold gL gA gB
  rcases labR_or (cs.getD v (0, 0, 0)) with g | g
  · omega
  · have := lab_at h hv; omega
theorem l6_s {fu : Nat} (hf : 18446744073709551616 ≤ fu) {w h : Int} {px : List Int} {cs : List Lab3} (hm : maskR w h px = 0) (hc : allLab cs = true) (hn : cs.length ≤ 256) :
    loopF (sheet_Mean_l6 fu ((w, (h, px)), (cs, ())) (0, cntL px cs.length)) fu (0, (0, (0, 0))) = some ((rnd (psum px (gL cs) cs.length) (w * h), rnd (psum px (gA cs) cs.length) (w * h), rnd (psum px (gB cs) cs.length) (w * h)), (0, ())) := by
  obtain ⟨w1, w2, w3, w4, w5, w6, w7⟩ := maskR_ok hm
  have bd : ∀ (g : Nat → Int), (∀ v, v < cs.length → -12800 ≤ g v ∧ g v ≤ 12800) → ∀ n, n ≤ cs.length → -13421772800 ≤ psum px g n ∧ psum px g n ≤ 13421772800 := by
    intro g hg n hn
    have := psum_bd (n := n) (M := 12800) (by omega) (fun v hv => hg v (by omega)) px
    omega
  have bL := bd (gL cs) fun v hv => (lab_bd hc hv).1
  have bA := bd (gA cs) fun v hv => (lab_bd hc hv).2.1
  have bB := bd (gB cs) fun v hv => (lab_bd hc hv).2.2
  refine loopF_spec (fun x : Int × Int × Int × Int => ((cs.length : Int) - x.1).toNat) (fun x => 0 ≤ x.1 ∧ x.1 ≤ cs.length ∧ x.2 = (psum px (gL cs) x.1.toNat, psum px (gA cs) x.1.toNat, psum px (gB cs) x.1.toNat)) (fun _ => some ((rnd (psum px (gL cs) cs.length) (w * h), rnd (psum px (gA cs) cs.length) (w * h), rnd (psum px (gB cs) cs.length) (w * h)), (0, ()))) ?_ fu (0, (0, (0, 0))) ⟨by simp, by simp, by simp [psum_zero]⟩ (by simp; omega)
  rintro j ⟨i, s⟩ ⟨i0, i1, e1⟩ hj
  simp only at i0 i1 e1
  subst e1
  unfold sheet_Mean_l6
  simp only [cntL_len]
  by_cases hi : i < cs.length
  · have hlt : i.toNat < cs.length := by omega
    rw [bif_pos hi, bif_and i0 hi, bif_and i0 hi, bif_and i0 hi, bif_and i0 hi]
    have sL := psum_succ (gL cs) i.toNat px
    have sA := psum_succ (gA cs) i.toNat px
    have sB := psum_succ (gB cs) i.toNat px
    rw [← cntL_at px hlt] at sL sA sB
    have a1 := bL i.toNat (by omega)
    have a2 := bL (i.toNat + 1) (by omega)
    have a3 := bA i.toNat (by omega)
    have a4 := bA (i.toNat + 1) (by omega)
    have a5 := bB i.toNat (by omega)
    have a6 := bB (i.toNat + 1) (by omega)
    have eL : (cs.getD i.toNat (0, 0, 0)).1 = gL cs i.toNat := rfl
    have eA : (cs.getD i.toNat (0, 0, 0)).2.1 = gA cs i.toNat := rfl
    have eB : (cs.getD i.toNat (0, 0, 0)).2.2 = gB cs i.toNat := rfl
    rw [eL, eA, eB, wr64 (x := (cntL px cs.length).getD i.toNat 0 * gL cs i.toNat) (by omega) (by omega), wr64 (x := (cntL px cs.length).getD i.toNat 0 * gA cs i.toNat) (by omega) (by omega), wr64 (x := (cntL px cs.length).getD i.toNat 0 * gB cs i.toNat) (by omega) (by omega)]
    rw [← sL, ← sA, ← sB, wr64 (x := psum px (gL cs) (i.toNat + 1)) (by omega) (by omega), wr64 (x := psum px (gA cs) (i.toNat + 1)) (by omega) (by omega), wr64 (x := psum px (gB cs) (i.toNat + 1)) (by omega) (by omega), wr64 (x := i + 1) (by omega) (by omega)]
    have ei : i.toNat + 1 = (i + 1).toNat := by omega
    rw [ei]
    exact hj _ ⟨by show 0 ≤ i + 1; omega, by show i + 1 ≤ _; omega, rfl⟩ (by show ((cs.length : Int) - (i + 1)).toNat < ((cs.length : Int) - i).toNat; omega)
  · have ei : i.toNat = cs.length := by omega
    have b1 := bL cs.length (by omega)
    have b2 := bA cs.length (by omega)
    have b3 := bB cs.length (by omega)
    rw [bif_neg hi, ei, wr64 (x := w * h) (by omega) (by omega), nearest_s fu (by omega) (by omega) (by omega) (by omega)]
    simp only [bindO_some]
    rw [nearest_s fu (by omega) (by omega) (by omega) (by omega)]
    simp only [bindO_some]
    rw [nearest_s fu (by omega) (by omega) (by omega) (by omega)]
    simp only [bindO_some]
theorem l4_s {fu : Nat} (hf : 18446744073709551616 ≤ fu) {w h : Int} {px : List Int} {cs : List Lab3} (hb : Bytes px) (hm : maskR w h px = 0) {k : Int} (hk0 : 1 ≤ k) (hk1 : k ≤ 8) (hk : (cs.length : Int) = 2 ^ k.toNat) :
    loopF (sheet_Mean_l4 fu ((w, (h, px)), (cs, ())) k) fu (0, (0, (0, 0))) = some (if allLab cs = true then (if allLt px cs.length = true then ((rnd (psum px (gL cs) cs.length) (w * h), rnd (psum px (gA cs) cs.length) (w * h), rnd (psum px (gB cs) cs.length) (w * h)), (0, ())) else ((0, 0, 0), (4, ()))) else ((0, 0, 0), (3, ()))) := by
  obtain ⟨w1, w2, w3, w4, w5, w6, w7⟩ := maskR_ok hm
  have hn : cs.length ≤ 256 := by
    have : ∀ m : Fin 9, (2 : Int) ^ m.val ≤ 256 := by decide
    have := this ⟨k.toNat, by omega⟩
    simp only at this
    omega
  refine loopF_spec (fun x : Int × Int × Int × Int => ((cs.length : Int) - x.1).toNat) (fun x => 0 ≤ x.1 ∧ x.1 ≤ cs.length ∧ x.2 = (0, (0, 0)) ∧ allLab (cs.take x.1.toNat) = true) (fun _ => some (if allLab cs = true then (if allLt px cs.length = true then ((rnd (psum px (gL cs) cs.length) (w * h), rnd (psum px (gA cs) cs.length) (w * h), rnd (psum px (gB cs) cs.length) (w * h)), (0, ())) else ((0, 0, 0), (4, ()))) else ((0, 0, 0), (3, ())))) ?_ fu (0, (0, (0, 0))) ⟨by simp, by simp, rfl, by simp [allLab]⟩ (by simp; omega)
  rintro j ⟨i, s⟩ ⟨i0, i1, e1, e2⟩ hj
  simp only at i0 i1 e1 e2
  subst e1
  unfold sheet_Mean_l4
  simp only
  by_cases hi : i < cs.length
  · have hlt : i.toNat < cs.length := by omega
    rw [bif_pos hi, bif_and i0 hi, refChk_s]
    simp only [bindO_some]
    have ec : cs.getD i.toNat (0, 0, 0) = cs[i.toNat] := by rw [List.getD_eq_getElem?_getD, List.getElem?_eq_getElem hlt]; rfl
    rcases labR_or (cs.getD i.toNat (0, 0, 0)) with g | g
    · rw [g.1, bif_neg (by simp), wr64 (x := i + 1) (by omega) (by omega)]
      refine hj _ ⟨by show 0 ≤ i + 1; omega, by show i + 1 ≤ _; omega, rfl, ?_⟩ (by show ((cs.length : Int) - (i + 1)).toNat < ((cs.length : Int) - i).toNat; omega)
      show allLab (cs.take (i + 1).toNat) = true
      rw [show (i + 1).toNat = i.toNat + 1 by omega, ← List.take_append_getElem hlt]
      unfold allLab at *
      rw [List.all_append, e2, ← ec]
      show (true && (decide (labR (cs.getD i.toNat (0, 0, 0)) = 0) && true)) = true
      rw [decide_eq_true g.1]; rfl
    · rw [g, bif_pos (by omega), if_neg]
      intro hh
      have := lab_at hh hlt
      omega
  · have ei : cs.take i.toNat = cs := List.take_of_length_le (by omega)
    rw [ei] at e2
    rw [bif_neg hi, maskChk_s, hm, if_pos e2]
    simp only [bindO_some, joinF_eq]
    rw [bif_neg (by simp), bif_neg (by omega), decide_eq_false (by omega)]
    unfold sheet_Mean_j7
    simp only [cond_false]
    rw [bif_and (by omega) (by omega), Int.one_mul, ← hk, wr64 (x := (cs.length : Int)) (by omega) (by omega), bif_and (by omega) (by omega), Int.toNat_natCast]
    have := cnt_loop hf hb (by omega) (sheet_Mean_j5 fu ((w, (h, px)), (cs, ()))) cs.length
    refine Eq.trans (show _ = loopF (cntB px (sheet_Mean_j5 fu ((w, (h, px)), (cs, ())))) fu (0, List.replicate cs.length 0) from rfl) (this.trans ?_)
    by_cases ha : allLt px cs.length = true
    · rw [if_pos ha, if_pos ha]
      unfold sheet_Mean_j5
      simp only
      rw [bif_neg (by simp)]
      exact l6_s hf hm e2 hn
    · rw [if_neg ha, if_neg ha]
      unfold sheet_Mean_j5
      simp only
      rw [bif_pos (by omega)]
theorem mean_s {fu : Nat} (hf : 18446744073709551616 ≤ fu) {w h : Int} {px : List Int} {cs : List Lab3} (hb : Bytes px) : sheet_Mean_r fu ((w, (h, px)), (cs, ())) = some ((meanR w h px cs).1, ((meanR w h px cs).2, ())) := by
  unfold sheet_Mean_r meanR
  simp only
  rw [maskChk_s]
  simp only [bindO_some]
  by_cases hm : maskR w h px = 0
  · rw [bif_neg (by simpa using hm), if_pos hm]
    refine loopF_spec (fun x : Int => (9 - x).toNat) (fun x => 0 ≤ x ∧ x ≤ 9 ∧ ∀ k : Nat, (k : Int) < x → (cs.length : Int) ≠ 2 ^ k) (fun _ => some ((match szOf cs.length with
      | some (_ + 1) => if allLab cs = true then (if allLt px cs.length = true then ((rnd (psum px (gL cs) cs.length) (w * h), rnd (psum px (gA cs) cs.length) (w * h), rnd (psum px (gB cs) cs.length) (w * h)), 0) else ((0, 0, 0), 4)) else ((0, 0, 0), 3)
      | _ => (((0, 0, 0), 4) : Lab3 × Int)).1, ((match szOf cs.length with
      | some (_ + 1) => if allLab cs = true then (if allLt px cs.length = true then ((rnd (psum px (gL cs) cs.length) (w * h), rnd (psum px (gA cs) cs.length) (w * h), rnd (psum px (gB cs) cs.length) (w * h)), 0) else ((0, 0, 0), 4)) else ((0, 0, 0), 3)
      | _ => (((0, 0, 0), 4) : Lab3 × Int)).2, ()))) ?_ fu 0 ⟨by omega, by omega, fun k hk => by omega⟩ (by omega)
    rintro j i ⟨i0, i1, i2⟩ hj
    unfold sheet_Mean_l1
    simp only [joinF_eq]
    by_cases hi : i ≤ 8
    · rw [bif_pos hi, bif_and i0 (by omega), Int.one_mul]
      have hp : (1 : Int) ≤ 2 ^ i.toNat ∧ (2 : Int) ^ i.toNat ≤ 256 := by
        have : ∀ m : Fin 9, (1 : Int) ≤ 2 ^ m.val ∧ (2 : Int) ^ m.val ≤ 256 := by decide
        exact this ⟨i.toNat, by omega⟩
      rw [wr64 (x := (2 : Int) ^ i.toNat) (by omega) (by omega)]
      by_cases he : (cs.length : Int) = 2 ^ i.toNat
      · rw [decide_eq_false (by simpa using he)]
        unfold sheet_Mean_j2
        simp only [cond_false, joinF_eq]
        have hsz : szOf cs.length = some i.toNat := by
          rw [he]
          have : ∀ m : Fin 9, szOf (2 ^ m.val) = some m.val := by decide
          exact this ⟨i.toNat, by omega⟩
        rw [hsz]
        by_cases hz : i = 0
        · subst hz; rfl
        · rw [bif_neg hz, decide_eq_false (by omega)]
          unfold sheet_Mean_j3
          simp only [cond_false]
          obtain ⟨q, hq⟩ : ∃ q, i.toNat = q + 1 := ⟨i.toNat - 1, by omega⟩
          rw [l4_s hf hb hm (by omega) hi he, hq]
          simp only
          split
          · split <;> rfl
          · rfl
      · rw [decide_eq_true he]
        unfold sheet_Mean_j2
        simp only [cond_true]
        rw [wr64 (x := i + 1) (by omega) (by omega)]
        refine hj (i + 1) ⟨by omega, by omega, fun k hk => ?_⟩ (by omega)
        by_cases e : (k : Int) = i
        · have : i.toNat = k := by omega
          rw [this] at he; exact he
        · exact i2 k (by omega)
    · rw [bif_neg hi]
      unfold sheet_Mean_j2
      simp only [cond_false, joinF_eq]
      have hsz : szOf cs.length = none := by
        unfold szOf
        rw [List.find?_eq_none]
        intro k hk
        have := i2 k (by have := List.mem_range.1 hk; omega)
        simpa using this
      rw [hsz, bif_neg (by omega), decide_eq_true (by omega)]; rfl
  · rw [bif_pos hm, if_neg hm]
end Go.Proofs.Ytnbmldnahacnlaa
/- SheetMeans: the law in plain form. -/
namespace Go.Proofs.Ytnbmldnahacnlaa
open Go Go.RowKit

def mL (cs : List Lab3) (v : Nat) : Int := gL cs v % 20001
def mA (cs : List Lab3) (v : Nat) : Int := IntKind.i64.wrap (gA cs v + 12800) % 40000 - 12800
def mB (cs : List Lab3) (v : Nat) : Int := IntKind.i64.wrap (gB cs v + 12800) % 40000 - 12800
def lawV (inks : Int) (px : List Int) : Int × List Int := if 1 ≤ inks ∧ inks ≤ 8 then (if allLt px (2 ^ inks.toNat) = true then (0, cntL px (2 ^ inks.toNat)) else (4, [])) else (3, [])
theorem szOf_no {n : Nat} (h : (n : Int) ≠ 2 ∧ (n : Int) ≠ 4 ∧ (n : Int) ≠ 8 ∧ (n : Int) ≠ 16 ∧ (n : Int) ≠ 32 ∧ (n : Int) ≠ 64 ∧ (n : Int) ≠ 128 ∧ (n : Int) ≠ 256) : szOf n = none ∨ szOf n = some 0 := by
  cases hz : szOf n with
  | none => exact .inl rfl
  | some k =>
    right
    have h1 := List.find?_some hz
    have h2 := List.mem_range.1 (List.mem_of_find?_eq_some hz)
    have h1 := of_decide_eq_true h1
    match k, h2 with
    | 0, _ => rfl
    | 1, _ => simp at h1; omega
    | 2, _ => simp at h1; omega
    | 3, _ => simp at h1; omega
    | 4, _ => simp at h1; omega
    | 5, _ => simp at h1; omega
    | 6, _ => simp at h1; omega
    | 7, _ => simp at h1; omega
    | 8, _ => simp at h1; omega
theorem szOf_yes {n : Int} (h : n = 2 ∨ n = 4 ∨ n = 8 ∨ n = 16 ∨ n = 32 ∨ n = 64 ∨ n = 128 ∨ n = 256) : ∃ k, szOf n = some (k + 1) := by
  rcases h with h | h | h | h | h | h | h | h <;> subst h
  · exact ⟨0, by decide⟩
  · exact ⟨1, by decide⟩
  · exact ⟨2, by decide⟩
  · exact ⟨3, by decide⟩
  · exact ⟨4, by decide⟩
  · exact ⟨5, by decide⟩
  · exact ⟨6, by decide⟩
  · exact ⟨7, by decide⟩
section
variable {w h inks : Int} {px : List Int} {cs : List Lab3}
theorem fin_s {fu : Nat} (hf : 18446744073709551616 ≤ fu) (hm : maskR w h px = 0) (hs : ∃ k, szOf cs.length = some (k + 1)) (hn0 : 2 ≤ cs.length) (hn : cs.length ≤ 256) :
    loopF (law_SheetMeans_l6 fu ((w, (h, px)), (inks, (cs, ()))) ((meanR w h px cs).1, ((meanR w h px cs).2, ())) (meanR w h px cs).2 (mx px, (px.length, (psum px (mL cs) cs.length, (psum px (mA cs) cs.length, psum px (mB cs) cs.length)))) cs.length) fu 0 = some (true, ()) := by
  obtain ⟨w1, w2, w3, w4, w5, w6, w7⟩ := maskR_ok hm
  obtain ⟨k, hk⟩ := hs
  have hM : meanR w h px cs = if allLab cs = true then (if allLt px cs.length = true then ((rnd (psum px (gL cs) cs.length) (w * h), rnd (psum px (gA cs) cs.length) (w * h), rnd (psum px (gB cs) cs.length) (w * h)), 0) else ((0, 0, 0), 4)) else ((0, 0, 0), 3) := by
    unfold meanR
    rw [if_pos hm, hk]
  refine loopF_spec (fun i : Int => ((cs.length : Int) - i).toNat) (fun i => 0 ≤ i ∧ i ≤ cs.length ∧ allLab (cs.take i.toNat) = true) (fun _ => some (true, ())) ?_ fu 0 ⟨by omega, by omega, by simp [allLab]⟩ (by omega)
  rintro j i ⟨i0, i1, i2⟩ hj
  unfold law_SheetMeans_l6
  simp only
  by_cases hi : i < cs.length
  · have hlt : i.toNat < cs.length := by omega
    rw [bif_pos hi, bif_and i0 hi, labErr_s]
    simp only [bindO_some]
    have ec : cs.getD i.toNat (0, 0, 0) = cs[i.toNat] := by rw [List.getD_eq_getElem?_getD, List.getElem?_eq_getElem hlt]; rfl
    rcases labR_or (cs.getD i.toNat (0, 0, 0)) with g | g
    · rw [g.1, bif_neg (by simp), wr64 (x := i + 1) (by omega) (by omega)]
      refine hj _ ⟨by omega, by omega, ?_⟩ (by omega)
      rw [show (i + 1).toNat = i.toNat + 1 by omega, ← List.take_append_getElem hlt]
      unfold allLab at *
      rw [List.all_append, i2, ← ec]
      show (true && (decide (labR (cs.getD i.toNat (0, 0, 0)) = 0) && true)) = true
      rw [decide_eq_true g.1]; rfl
    · have ha : ¬ allLab cs = true := fun hh => by have := lab_at hh hlt; omega
      rw [g, bif_pos (by omega), none_s, hM, if_neg ha]; rfl
  · have ei : cs.take i.toNat = cs := List.take_of_length_le (by omega)
    rw [ei] at i2
    rw [if_pos i2] at hM
    rw [bif_neg hi]
    by_cases hmx : (cs.length : Int) ≤ mx px
    · have : ¬ allLt px cs.length = true := fun hh => by have := (mx_lt (N := cs.length) (by omega) px).2 hh; omega
      rw [bif_pos hmx, none_s, hM, if_neg this]; rfl
    · have ha : allLt px cs.length = true := (mx_lt (by omega) px).1 (by omega)
      rw [if_pos ha] at hM
      rw [bif_neg hmx, hM]
      have bd : ∀ (g : Nat → Int), (∀ v, v < cs.length → -12800 ≤ g v ∧ g v ≤ 12800) → -13421772800 ≤ psum px g cs.length ∧ psum px g cs.length ≤ 13421772800 := by
        intro g hg
        have := psum_bd (n := cs.length) (M := 12800) (by omega) hg px
        omega
      have bL := bd (gL cs) fun v hv => (lab_bd i2 hv).1
      have bA := bd (gA cs) fun v hv => (lab_bd i2 hv).2.1
      have bB := bd (gB cs) fun v hv => (lab_bd i2 hv).2.2
      have lb : ∀ v, v < cs.length → 0 ≤ gL cs v ∧ gL cs v ≤ 10000 := fun v hv => by
        rcases labR_or (cs.getD v (0, 0, 0)) with g | g
        · exact ⟨g.2.1, g.2.2.1⟩
        · have := lab_at i2 hv; omega
      have eL : psum px (mL cs) cs.length = psum px (gL cs) cs.length := psum_congr fun v hv => by
        have := lb v hv
        unfold mL; omega
      have eA : psum px (mA cs) cs.length = psum px (gA cs) cs.length := psum_congr fun v hv => by
        have := (lab_bd i2 hv).2.1
        unfold mA; rw [wr64 (x := gA cs v + 12800) (by omega) (by omega)]; omega
      have eB : psum px (mB cs) cs.length = psum px (gB cs) cs.length := psum_congr fun v hv => by
        have := (lab_bd i2 hv).2.2
        unfold mB; rw [wr64 (x := gB cs v + 12800) (by omega) (by omega)]; omega
      rw [bif_pos (by simp), eL, eA, eB, w5, round_s fu (by omega) (by omega) (by omega) (by omega)]
      simp only [bindO_some]
      rw [round_s fu (by omega) (by omega) (by omega) (by omega)]
      simp only [bindO_some]
      rw [round_s fu (by omega) (by omega) (by omega) (by omega)]
      simp [bindO_some]
theorem j4_s {fu : Nat} (hf : 18446744073709551616 ≤ fu) (hm : maskR w h px = 0) :
    law_SheetMeans_j4 fu ((w, (h, px)), (inks, (cs, ()))) ((meanR w h px cs).1, ((meanR w h px cs).2, ())) (meanR w h px cs).2 (mx px, (px.length, (psum px (mL cs) cs.length, (psum px (mA cs) cs.length, psum px (mB cs) cs.length)))) () = some (true, ()) := by
  unfold law_SheetMeans_j4
  simp only [joinF_eq]
  have good : (cs.length : Int) = 2 ∨ (cs.length : Int) = 4 ∨ (cs.length : Int) = 8 ∨ (cs.length : Int) = 16 ∨ (cs.length : Int) = 32 ∨ (cs.length : Int) = 64 ∨ (cs.length : Int) = 128 ∨ (cs.length : Int) = 256 →
      law_SheetMeans_j5 fu ((w, (h, px)), (inks, (cs, ()))) ((meanR w h px cs).1, ((meanR w h px cs).2, ())) (meanR w h px cs).2 (mx px, (px.length, (psum px (mL cs) cs.length, (psum px (mA cs) cs.length, psum px (mB cs) cs.length)))) cs.length false = some (true, ()) := by
    intro hg
    exact fin_s hf hm (szOf_yes hg) (by omega) (by omega)
  by_cases h1 : (cs.length : Int) = 2
  · rw [bif_neg (by simpa using h1)]; exact good (by omega)
  rw [bif_pos h1]
  by_cases h2 : (cs.length : Int) = 4
  · rw [bif_neg (by simpa using h2)]; exact good (by omega)
  rw [bif_pos h2]
  by_cases h3 : (cs.length : Int) = 8
  · rw [bif_neg (by simpa using h3)]; exact good (by omega)
  rw [bif_pos h3]
  by_cases h4 : (cs.length : Int) = 16
  · rw [bif_neg (by simpa using h4)]; exact good (by omega)
  rw [bif_pos h4]
  by_cases h5 : (cs.length : Int) = 32
  · rw [bif_neg (by simpa using h5)]; exact good (by omega)
  rw [bif_pos h5]
  by_cases h6 : (cs.length : Int) = 64
  · rw [bif_neg (by simpa using h6)]; exact good (by omega)
  rw [bif_pos h6]
  by_cases h7 : (cs.length : Int) = 128
  · rw [bif_neg (by simpa using h7)]; exact good (by omega)
  rw [bif_pos h7]
  by_cases h8 : (cs.length : Int) = 256
  · rw [decide_eq_false (by simpa using h8)]; exact good (by omega)
  rw [decide_eq_true h8]
  unfold law_SheetMeans_j5
  simp only [cond_true]
  have hM : meanR w h px cs = ((0, 0, 0), 4) := by
    unfold meanR
    rw [if_pos hm]
    rcases szOf_no (n := cs.length) ⟨h1, h2, h3, h4, h5, h6, h7, h8⟩ with e | e <;> rw [e]
  rw [hM, none_s]; rfl
theorem zero_s {fu : Nat} (hf : 18446744073709551616 ≤ fu) (hb : Bytes px) (hl : px.length ≤ 1048576) (N : Nat) (hN : N ≤ 256) (ha : allLt px N = true) (J : Unit → Option (Bool × Unit)) (hJ : J () = some (true, ())) :
    loopF (law_SheetMeans_l8 fu ((w, (h, px)), (inks, (cs, ()))) J) fu (0, cntL px N) = some (true, ()) := by
  refine loopF_spec (fun x : Int × List Int => ((px.length : Int) - x.1).toNat) (fun x => 0 ≤ x.1 ∧ x.1 ≤ px.length ∧ x.2 = cntL (px.drop x.1.toNat) N) (fun _ => some (true, ())) ?_ fu (0, cntL px N) ⟨by simp, by simp, by simp⟩ (by simp; omega)
  rintro j ⟨i, l⟩ ⟨i0, i1, e1⟩ hj
  simp only at i0 i1 e1
  subst e1
  unfold law_SheetMeans_l8
  simp only [cntL_len]
  by_cases hi : i < px.length
  · obtain ⟨g1, g2, g3⟩ := drop_cons i0 hi
    obtain ⟨d0, d1⟩ := hb _ g3
    have hd := of_decide_eq_true (List.all_eq_true.1 ha _ g3)
    have hc := cntL_ge (px.drop i.toNat) (N := N) (v := (px.getD i.toNat 0).toNat) (by omega)
    have ht : (px.drop i.toNat).length ≤ px.length := by rw [List.length_drop]; omega
    rw [bif_pos hi, bif_and i0 hi, bif_and d0 (by omega), bif_and d0 (by omega), wr64 (x := i + 1) (by omega) (by omega), wr64 (x := (cntL (px.drop i.toNat) N).getD (px.getD i.toNat 0).toNat 0 - 1) (by omega) (by omega)]
    have e : (cntL (px.drop i.toNat) N).set (px.getD i.toNat 0).toNat ((cntL (px.drop i.toNat) N).getD (px.getD i.toNat 0).toNat 0 - 1) = cntL (px.drop (i + 1).toNat) N := by
      rw [g1]
      exact cntL_uncons _ (by omega)
    rw [e]
    exact hj _ ⟨by show 0 ≤ i + 1; omega, by show i + 1 ≤ _; omega, rfl⟩ (by show ((px.length : Int) - (i + 1)).toNat < ((px.length : Int) - i).toNat; omega)
  · have ed : px.drop i.toNat = [] := List.drop_eq_nil_of_le (by omega)
    rw [bif_neg hi, ed, cntL_nil]
    refine loopF_spec (fun k : Int => ((N : Int) - k).toNat) (fun k => 0 ≤ k ∧ k ≤ N) (fun _ => some (true, ())) ?_ fu 0 ⟨by omega, by omega⟩ (by omega)
    rintro j' k ⟨k0, k1⟩ hj'
    unfold law_SheetMeans_l9
    simp only [List.length_replicate]
    by_cases hk : k < N
    · have e0 : (List.replicate N (0 : Int)).getD k.toNat 0 = 0 := by
        rw [List.getD_eq_getElem?_getD, List.getElem?_replicate, if_pos (by omega)]; rfl
      rw [bif_pos hk, bif_and k0 hk, e0, bif_neg (by simp), wr64 (x := k + 1) (by omega) (by omega)]
      exact hj' _ ⟨by omega, by omega⟩ (by omega)
    · rw [bif_neg hk]; exact hJ
theorem j1_s {fu : Nat} (hf : 18446744073709551616 ≤ fu) (hb : Bytes px) (hc : ∀ v, (-9223372036854775808 ≤ gL cs v ∧ gL cs v ≤ 9223372036854775807)) (hm : maskR w h px = 0) : law_SheetMeans_j1 fu ((w, (h, px)), (inks, (cs, ()))) (lawV inks px) = some (true, ()) := by
  obtain ⟨w1, w2, w3, w4, w5, w6, w7⟩ := maskR_ok hm
  unfold law_SheetMeans_j1
  simp only
  rw [mean_s hf hb, maskErr_s, maskChk_s, hm]
  simp only [bindO_some]
  rw [bif_neg (by simp), bif_neg (by simp)]
  refine loopF_spec (fun x : Int × Int × Int × Int × Int => ((px.length : Int) - x.2.1).toNat) (fun x => 0 ≤ x.2.1 ∧ x.2.1 ≤ px.length ∧ x.1 = mx (px.take x.2.1.toNat) ∧ x.2.2 = (psum (px.take x.2.1.toNat) (mL cs) cs.length, psum (px.take x.2.1.toNat) (mA cs) cs.length, psum (px.take x.2.1.toNat) (mB cs) cs.length)) (fun _ => some (true, ())) ?_ fu (0, (0, (0, (0, 0)))) ⟨by simp, by simp, by simp [mx], by simp [psum]⟩ (by simp; omega)
  rintro j ⟨m, i, s⟩ ⟨i0, i1, e1, e2⟩ hj
  simp only at i0 i1 e1 e2
  subst e1
  subst e2
  have bd : ∀ (g : Nat → Int), (∀ v, v < cs.length → -40000 ≤ g v ∧ g v ≤ 40000) → ∀ k, -41943040000 ≤ psum (px.take k) g cs.length ∧ psum (px.take k) g cs.length ≤ 41943040000 := by
    intro g hg k
    have := psum_bd (n := cs.length) (M := 40000) (by omega) hg (px.take k)
    have ht : (px.take k).length ≤ px.length := by rw [List.length_take]; omega
    omega
  have m1 : ∀ v, v < cs.length → -40000 ≤ mL cs v ∧ mL cs v ≤ 40000 := fun v _ => by unfold mL; omega
  have m2 : ∀ v, v < cs.length → -40000 ≤ mA cs v ∧ mA cs v ≤ 40000 := fun v _ => by unfold mA; omega
  have m3 : ∀ v, v < cs.length → -40000 ≤ mB cs v ∧ mB cs v ≤ 40000 := fun v _ => by unfold mB; omega
  unfold law_SheetMeans_l2
  simp only
  by_cases hi : i < px.length
  · obtain ⟨g1, g2, g3⟩ := drop_cons i0 hi
    obtain ⟨d0, d1⟩ := hb _ g3
    have bL := bd _ m1 i.toNat
    have bA := bd _ m2 i.toNat
    have bB := bd _ m3 i.toNat
    rw [bif_pos hi]
    simp only [joinF_eq]
    rw [bif_and i0 hi, wr64 (x := px.getD i.toNat 0) (by omega) (by omega)]
    have hnext : ∀ a b c : Int, a = psum (px.take (i + 1).toNat) (mL cs) cs.length → b = psum (px.take (i + 1).toNat) (mA cs) cs.length → c = psum (px.take (i + 1).toNat) (mB cs) cs.length →
        law_SheetMeans_j3 fu (mx (px.take i.toNat), (i, (psum (px.take i.toNat) (mL cs) cs.length, (psum (px.take i.toNat) (mA cs) cs.length, psum (px.take i.toNat) (mB cs) cs.length)))) j (max (mx (px.take i.toNat)) (px.getD i.toNat 0), (a, (b, c))) = some (true, ()) := by
      intro a b c ha hb' hc'
      unfold law_SheetMeans_j3
      simp only
      rw [wr64 (x := i + 1) (by omega) (by omega)]
      refine hj _ ⟨by show 0 ≤ i + 1; omega, by show i + 1 ≤ _; omega, ?_, ?_⟩ (by show ((px.length : Int) - (i + 1)).toNat < ((px.length : Int) - i).toNat; omega)
      · show max _ _ = mx (px.take (i + 1).toNat)
        rw [g2, mx_snoc]
      · show (a, (b, c)) = _
        rw [ha, hb', hc']
    have pL := psum_snoc (px.take i.toNat) (mL cs) cs.length (px.getD i.toNat 0)
    have pA := psum_snoc (px.take i.toNat) (mA cs) cs.length (px.getD i.toNat 0)
    have pB := psum_snoc (px.take i.toNat) (mB cs) cs.length (px.getD i.toNat 0)
    rw [← g2] at pL pA pB
    by_cases hd : px.getD i.toNat 0 < cs.length
    · have hv : (px.getD i.toNat 0).toNat < cs.length := by omega
      rw [if_pos hv] at pL pA pB
      have nL := m1 _ hv
      have nA := m2 _ hv
      have nB := m3 _ hv
      rw [bif_pos hd, bif_and d0 hd]
      have eL : (cs.getD (px.getD i.toNat 0).toNat (0, 0, 0)).1 = gL cs (px.getD i.toNat 0).toNat := rfl
      have eA : (cs.getD (px.getD i.toNat 0).toNat (0, 0, 0)).2.1 = gA cs (px.getD i.toNat 0).toNat := rfl
      have eB : (cs.getD (px.getD i.toNat 0).toNat (0, 0, 0)).2.2 = gB cs (px.getD i.toNat 0).toNat := rfl
      have wA : ∀ x, -9223372036854775808 ≤ IntKind.i64.wrap x ∧ IntKind.i64.wrap x ≤ 9223372036854775807 := fun x => by rw [IntKind.wrap_i64]; omega
      rw [eL, eA, eB, mod_s fu (by omega) (by omega) (hc _).1 (hc _).2]
      simp only [bindO_some]
      rw [mod_s fu (by omega) (by omega) (wA _).1 (wA _).2]
      simp only [bindO_some]
      rw [mod_s fu (by omega) (by omega) (wA _).1 (wA _).2]
      simp only [bindO_some]
      have qL : gL cs (px.getD i.toNat 0).toNat % 20001 = mL cs (px.getD i.toNat 0).toNat := rfl
      have qA : IntKind.i64.wrap (gA cs (px.getD i.toNat 0).toNat + 12800) % 40000 = mA cs (px.getD i.toNat 0).toNat + 12800 := by unfold mA; omega
      have qB : IntKind.i64.wrap (gB cs (px.getD i.toNat 0).toNat + 12800) % 40000 = mB cs (px.getD i.toNat 0).toNat + 12800 := by unfold mB; omega
      rw [qL, qA, qB]
      refine hnext _ _ _ ?_ ?_ ?_
      · rw [wr64 (by omega) (by omega)]; omega
      · rw [IntKind.wrap_i64, IntKind.wrap_i64]; omega
      · rw [IntKind.wrap_i64, IntKind.wrap_i64]; omega
    · have hv : ¬ (px.getD i.toNat 0).toNat < cs.length := by omega
      rw [if_neg hv] at pL pA pB
      rw [bif_neg hd]
      exact hnext _ _ _ (by omega) (by omega) (by omega)
  · have ei : i = px.length := by omega
    rw [bif_neg hi, take_all ei]
    subst ei
    have T := j4_s (inks := inks) (cs := cs) hf hm
    simp only [joinF_eq]
    rw [within_s]
    simp only [bindO_some]
    unfold lawV
    by_cases h1 : 1 ≤ inks ∧ inks ≤ 8
    · rw [decide_eq_true h1, if_pos h1]
      simp only [Bool.not_true, cond_false]
      rw [power_s hf (by omega) h1.2]
      simp only [bindO_some]
      have hp : (1 : Int) ≤ 2 ^ inks.toNat ∧ (2 : Nat) ^ inks.toNat ≤ 256 := by
        have : ∀ m : Fin 9, (1 : Int) ≤ 2 ^ m.val ∧ (2 : Nat) ^ m.val ≤ 256 := by decide
        exact this ⟨inks.toNat, by omega⟩
      by_cases ha : allLt px (2 ^ inks.toNat) = true
      · have hx := (mx_lt (by omega) px).2 ha
        rw [bif_neg (by omega), if_pos ha]
        simp only
        rw [bif_neg (by simp), cntL_len]
        unfold law_SheetMeans_j7
        have e : decide (((2 ^ inks.toNat : Nat) : Int) ≠ 2 ^ inks.toNat) = false := by
          rw [decide_eq_false]
          simp [Int.natCast_pow]
        rw [e]
        simp only [cond_false]
        exact zero_s hf hb (by omega) _ hp.2 (by rw [Int.natCast_pow]; exact ha) _ T
      · have hx : 2 ^ inks.toNat ≤ mx px := by
          rcases Int.lt_or_le (mx px) (2 ^ inks.toNat) with g | g
          · exact absurd ((mx_lt (by omega) px).1 g) ha
          · exact g
        rw [bif_pos hx, if_neg ha, none_s]
        simp only [bindO_some]
        exact T
    · rw [decide_eq_false h1, if_neg h1, none_s]
      simp only [Bool.not_false, cond_true, bindO_some]
      exact T
theorem law_s {fu : Nat} (hf : 18446744073709551616 ≤ fu) (hb : Bytes px) (hc : ∀ v, (-9223372036854775808 ≤ gL cs v ∧ gL cs v ≤ 9223372036854775807)) : law_SheetMeans_r fu ((w, (h, px)), (inks, (cs, ()))) = some (true, ()) := by
  unfold law_SheetMeans_r
  show (bif (!true) then some (false, ()) else _) = _
  simp only [Bool.not_true, cond_false, joinF_eq]
  rw [maskChk_s]
  simp only [bindO_some]
  by_cases hm : maskR w h px = 0
  · obtain ⟨w1, w2, w3, w4, w5, w6, w7⟩ := maskR_ok hm
    have T := j1_s (inks := inks) hf hb hc hm
    rw [bif_neg (by simpa using hm)]
    by_cases h1 : 1 ≤ inks ∧ inks ≤ 8
    · unfold lawV at T
      rw [if_pos h1] at T
      rw [bif_neg (by omega), decide_eq_false (by omega)]
      unfold law_SheetMeans_j10
      simp only [cond_false]
      have hp : (1 : Int) ≤ 2 ^ inks.toNat ∧ (2 : Int) ^ inks.toNat ≤ 256 := by
        have : ∀ m : Fin 9, (1 : Int) ≤ 2 ^ m.val ∧ (2 : Int) ^ m.val ≤ 256 := by decide
        exact this ⟨inks.toNat, by omega⟩
      rw [bif_and (by omega) (by omega), Int.one_mul, wr64 (x := (2 : Int) ^ inks.toNat) (by omega) (by omega), bif_and (by omega) (by omega)]
      have e : ((2 : Int) ^ inks.toNat).toNat = 2 ^ inks.toNat := by
        have : ((2 : Int) ^ inks.toNat) = ((2 ^ inks.toNat : Nat) : Int) := by rw [Int.natCast_pow]; rfl
        rw [this, Int.toNat_natCast]
      rw [e]
      have := cnt_loop hf hb (by omega) (law_SheetMeans_j1 fu ((w, (h, px)), (inks, (cs, ())))) (2 ^ inks.toNat)
      refine Eq.trans (show _ = loopF (cntB px (law_SheetMeans_j1 fu ((w, (h, px)), (inks, (cs, ()))))) fu (0, List.replicate (2 ^ inks.toNat) 0) from rfl) (this.trans ?_)
      have e3 : ((2 ^ inks.toNat : Nat) : Int) = 2 ^ inks.toNat := by rw [Int.natCast_pow]; rfl
      rw [e3]
      by_cases ha : allLt px (2 ^ inks.toNat) = true
      · rw [if_pos ha] at T ⊢; exact T
      · rw [if_neg ha] at T ⊢; exact T
    · unfold lawV at T
      rw [if_neg h1] at T
      by_cases h2 : inks < 1
      · rw [bif_pos h2]; exact T
      · rw [bif_neg h2, decide_eq_true (by omega)]; exact T
  · rw [bif_pos hm]
    unfold law_SheetMeans_j1
    simp only
    rw [mean_s hf hb, maskErr_s, maskChk_s]
    simp only [bindO_some]
    have hM : meanR w h px cs = ((0, 0, 0), maskR w h px) := by unfold meanR; rw [if_neg hm]
    rw [bif_neg (by simp), bif_pos hm, none_s, hM]
    simp only [bindO_some, none_s]
    simp
end
end Go.Proofs.Ytnbmldnahacnlaa
/- The step from a walk to a law's row, once for all laws of the seat: a law that returns true and leaves all that was there as it was. -/
namespace Go.Proofs.Ytnbmldnahacnlaa
open Go.ChangeShapes Go.WideShapes Go.ChangeAt Go.RowKit

theorem own : ownKnob Try.prog.godebug = none := by kernel_rfl
theorem laidOut : laidOutB Try.prog = true := by kernel_rfl
theorem boolT : Try.prog.underlying 4 = some .bool := Try.underlying4

theorem trodAll_stays {H : Type} {enc : TypeId × Value → H} {P : Program} (hl : laidOutB P = true) {W W' : World} (hb : Below W.heap.size W W') :
    ∀ {ts : List TypeId} {vs : List Value} {ds : List (DataW H)} {ps : List MemPlace}, (∀ t ∈ ts, P.readableRec t = true ∧ t < P.types.size) → DataW.TrodAll enc P W 0 (fun _ => true) true ts vs ds ps →
      (∀ x ∈ ps, x.block < W.heap.size) → DataW.TrodAll enc P W' 0 (fun b => decide (b < W.heap.size)) true ts vs ds ps
  | [], [], [], _, _, h, _ => h
  | t :: ts, v :: vs, d :: ds, _, hr, ⟨p, q, h1, h2, e⟩, hlt =>
    ⟨p, q, Below.trod hl (hr t (by simp)).1 (hr t (by simp)).2 h1 hb (fun x hx => hlt x (by rw [e]; simp [hx])),
      trodAll_stays hl hb (fun t' ht => hr t' (by simp [ht])) h2 (fun x hx => hlt x (by rw [e]; simp [hx])), e⟩
  | [], [], _ :: _, _, _, h, _ => h.elim
  | [], _ :: _, _, _, _, h, _ => h.elim
  | _ :: _, [], _, _, _, h, _ => h.elim
  | _ :: _, _ :: _, [], _, _, h, _ => h.elim

/-- what a law's row asks of the readable types among its parameters -/
def readsAll (P : Program) (ts : List TypeId) : Bool := ts.all fun t => P.readableRec t && decide (t < P.types.size)
theorem readsAll_all {P : Program} {ts : List TypeId} (h : readsAll P ts = true) : ∀ t ∈ ts, P.readableRec t = true ∧ t < P.types.size := by
  intro t ht
  have := List.all_eq_true.1 h t ht
  simpa using this

theorem trodAll_length {H : Type} {enc : TypeId × Value → H} {P : Program} {W : World} {base : Nat} {spare : Nat → Bool} {held : Bool} :
    ∀ {ts : List TypeId} {vs : List Value} {ds : List (DataW H)} {ps : List MemPlace}, DataW.TrodAll enc P W base spare held ts vs ds ps → ds.length = ts.length
  | [], [], [], _, _ => rfl
  | _ :: _, _ :: _, _ :: _, _, ⟨_, _, _, h2, _⟩ => by simp [trodAll_length h2]
  | [], [], _ :: _, _, h => h.elim
  | [], _ :: _, _, _, h => h.elim
  | _ :: _, [], _, _, h => h.elim
  | _ :: _, _ :: _, [], _, h => h.elim

set_option maxRecDepth 100000 in
theorem law_lifted {os : Os} (started : os.Started) {H : Type} {enc : TypeId × Value → H} {f : FuncId} {fn : Func} {s : ChangeSpec}
    (noInit : Try.checked.prog.inits.idxOf? f = none) (hfn : Try.checked.prog.funcs[f]? = some fn)
    (witness : ∃ (w : World) (tape : Tape) (i : Input), w.os = os ∧ (w.forCall tape i).Shaped Try.checked.prog ∧ i.vars = [] ∧ Input.okWide Try.checked.prog (w.forCall tape i) .any w.heap.size f i ∧
      s.pre6 enc Try.checked.prog fn [] false (w.forCall tape i).memory i.args ∧ ({} : Assume).holds Try.checked.prog (lone (Frame.enter Try.checked.prog f i.args .normal) [] (w.forCall tape i)))
    (hvars : s.vars = []) (hres : fn.resultTypes = #[4]) (hread : readsAll Try.prog fn.params.toList = true)
    (hspec : ∀ ds : List (DataW H), ds.length = fn.params.toList.length → s.fn H ds = { results := [.lit (.bool true)], args := ds })
    (walk : ∀ (W : World) (base : Nat) (args : List Value) (ds : List (DataW H)) (ps : List MemPlace),
      (∀ (j : Nat) t v, fn.params[j]? = some t → args[j]? = some v → Value.okWide Try.prog W .any base t v) → DataW.TrodAll enc Try.prog W 0 (fun _ => true) true fn.params.toList args ds ps →
      (DataW.weightsEach Try.prog fn.params.toList ds).all (· ≤ reachBytes) = true → (∀ x ∈ ps, x.block < W.heap.size) →
      Calls Try.prog f args.toArray W fun e W' => e = .returned (.bool true) ∧ Below W.heap.size W W') :
    ReturnsInHanded {} Try.checked os f .any (s.pre6 enc Try.checked.prog fn [] false) (s.post enc Try.checked.prog fn false true false false) := by
  refine returnsInHanded_of_change_sized (C := Try.checked) own started noInit hfn witness ?_
  intro W base args ds gs before hval hW _ hsz _
  have hW' := hW
  obtain ⟨p, q, hA0, hV, rfl, hfz, hnd⟩ := hW
  rw [hvars] at hV
  obtain ⟨rfl, rfl⟩ := trodVars_none hV
  have hA : DataW.TrodAll enc Try.prog W 0 (fun _ => true) true fn.params.toList args.toList ds p := hA0
  have hlen : ds.length = fn.params.toList.length := trodAll_length hA
  have hlt : ∀ x ∈ p, x.block < W.heap.size := fun x hx => hW'.lt x (by simpa using hx)
  have hargs : args.toList.toArray = args := by simp
  have hsz' : (DataW.weightsEach Try.prog fn.params.toList ds).all (· ≤ reachBytes) = true := by
    have h := hsz
    have hvt : s.plain.varTypes Try.checked.prog = [] := by simp [DataSpec.varTypes, ChangeSpec.plain, hvars]
    rw [hvt] at h
    simp only [List.append_nil] at h
    exact h
  have hw := walk W base args.toList ds p (fun j t v ht hv => hval j t v ht (by simpa using hv)) hA hsz' hlt
  rw [hargs] at hw
  refine hw.mono fun e W' ⟨he, hb⟩ => ⟨.bool true, he, ?_⟩
  have hsf : s.fn H (ds ++ []) = { results := [.lit (.bool true)], args := ds } := by rw [List.append_nil]; exact hspec ds hlen
  refine ⟨ds, [], p ++ [], [], p, [], hW', ?_, ?_, ?_, hb.frame _, fun h => by cases h⟩
  · rw [hsf, hres]
    exact trodAll_mk1 (shut_bool boolT true)
  · rw [hsf]
    exact trodAll_stays laidOut hb (readsAll_all hread) hA hlt
  · rw [hsf, hvars]
    rfl
end Go.Proofs.Ytnbmldnahacnlaa
/- Arguments opened: what slices and structs of numbers read as. -/
set_option maxRecDepth 100000
namespace Go.Proofs.Ytnbmldnahacnlaa
open Go.ChangeShapes Go.WideShapes Go.ChangeAt Go.RowKit Go.Deep

theorem choose_list {α : Type} {n : Nat} {Q : Nat → α → Prop} (h : ∀ i, i < n → ∃ p, Q i p) : ∃ l : List α, l.length = n ∧ ∀ i p, l[i]? = some p → Q i p := by
  induction n with
  | zero => exact ⟨[], rfl, by intro i p hi; simp at hi⟩
  | succ n ih =>
    obtain ⟨l, hl, hq⟩ := ih (fun i hi => h i (by omega))
    obtain ⟨p, hp⟩ := h n (by omega)
    refine ⟨l ++ [p], by simp [hl], fun i q hi => ?_⟩
    rcases Nat.lt_trichotomy i n with hlt | rfl | hgt
    · rw [List.getElem?_append_left (by omega)] at hi
      exact hq i q hi
    · rw [List.getElem?_append_right (by omega), hl] at hi
      simp at hi
      subst hi; exact hp
    · rw [List.getElem?_eq_none (by simp; omega)] at hi
      cases hi

section
variable {H : Type} {enc : TypeId × Value → H} {P : Program} {w : World} {base : Nat} {spare : Nat → Bool} {held : Bool}
/-- a slice, whatever its elements: of each element its cells and its reading -/
theorem rd_slice {t e : TypeId} {fuel : Nat} {v : Value} {x : DataW H × List MemPlace} (ht : P.underlying t = some (.slice e)) (hc : 0 < P.cellsOf e) (h : DataW.trod enc P w base spare held fuel t [v] = some x) :
    ∃ A n c, v = .slice A n c ∧ n ≤ c ∧ c ≤ maxLen ∧ ∀ i, i < n → ∃ b o cs n' x', A = some ⟨b, o, none⟩ ∧ cs.length = P.cellsOf e ∧ (∀ j u, cs[j]? = some u → w.cell? ⟨b, o + i * P.cellsOf e + j, none⟩ = some u) ∧
      DataW.trod enc P w base spare held n' e cs = some x' := by
  rcases open_slice ht h with ⟨h0, _⟩ | ⟨a, len, cap, m, n', D, Pl, hcs, _, hl, hm, hmm, _, hi⟩
  · simp at h0
    subst h0
    exact ⟨none, 0, 0, rfl, by omega, by unfold maxLen; omega, by intro i hi; omega⟩
  · simp at hcs
    subst hcs
    refine ⟨some a, len, cap, rfl, hl, hm, fun i hil => ?_⟩
    have hlm : len ≤ m := by rw [hmm]; split <;> omega
    obtain ⟨cs, h1, h2⟩ := hi i (by omega)
    obtain ⟨hb, hlen, hat⟩ := World.cells?_some h1
    obtain ⟨b, o, spot⟩ := a
    have h00 := hat 0 (by omega)
    have hsp : spot = none := by
      obtain ⟨cs0, g1, _⟩ := hi 0 (by omega)
      obtain ⟨_, gl, gat⟩ := World.cells?_some g1
      have hx := gat 0 (by omega)
      rw [List.getElem?_eq_getElem (by omega)] at hx
      simpa [Addr.add] using World.cell?_spot hx
    subst hsp
    refine ⟨b, o, cs, n', _, rfl, hlen, ?_, h2⟩
    intro j u hu
    have hjl : j < P.cellsOf e := by rw [← hlen]; exact (List.getElem?_eq_some_iff.1 hu).1
    have := hat j hjl
    rw [hu, Addr.add_lit, Addr.add_lit] at this
    exact this
/-- a struct's fields -/
theorem rd_field {t : TypeId} {fs : Array Field} {fuel : Nat} {cs : List Value} {x : DataW H × List MemPlace} (ht : P.underlying t = some (.struct fs)) (h : DataW.trod enc P w base spare held fuel t cs = some x) (i : Nat) (f : Field) (hf : fs[i]? = some f) :
    ∃ n y, DataW.trod enc P w base spare held n f.type ((cs.drop f.offset).take (P.cellsOf f.type)) = some y := by
  obtain ⟨xs, n, _, _, _, hxl, hat⟩ := DataW.trod_struct ht h
  have hi : i < xs.length := by rw [hxl]; exact (Array.getElem?_eq_some_iff.1 hf).1
  exact ⟨n, _, by rw [hat i f hf, List.getElem?_eq_getElem hi]⟩
/-- a field of one cell -/
theorem rd_field1 {t tt : TypeId} {fs : Array Field} {off : Nat} {fuel : Nat} {cs : List Value} {x : DataW H × List MemPlace} {u : Value} (ht : P.underlying t = some (.struct fs)) (h : DataW.trod enc P w base spare held fuel t cs = some x) (i : Nat)
    (hf : (fs[i]?).map (fun f => (f.type, f.offset)) = some (tt, off)) (hc : P.cellsOf tt = 1) (hu : cs[off]? = some u) : ∃ n y, DataW.trod enc P w base spare held n tt [u] = some y := by
  obtain ⟨f, h1, h2⟩ := Option.map_eq_some_iff.1 hf
  simp only [Prod.mk.injEq] at h2
  obtain ⟨n, y, hg⟩ := rd_field ht h i f h1
  rw [h2.1, h2.2, hc] at hg
  have hl : off < cs.length := (List.getElem?_eq_some_iff.1 hu).1
  have hd : (cs.drop off).take 1 = [u] := by
    rw [List.drop_eq_getElem_cons hl]
    have : cs[off] = u := (List.getElem?_eq_some_iff.1 hu).2
    rw [this]; rfl
  rw [hd] at hg
  exact ⟨n, y, hg⟩
/-- a field of several cells (a struct or an array in a struct) -/
theorem rd_fieldN {t tt : TypeId} {fs : Array Field} {off k : Nat} {fuel : Nat} {cs : List Value} {x : DataW H × List MemPlace} (ht : P.underlying t = some (.struct fs)) (h : DataW.trod enc P w base spare held fuel t cs = some x) (i : Nat)
    (hf : (fs[i]?).map (fun f => (f.type, f.offset)) = some (tt, off)) (hc : P.cellsOf tt = k) : ∃ n y, DataW.trod enc P w base spare held n tt ((cs.drop off).take k) = some y := by
  obtain ⟨f, h1, h2⟩ := Option.map_eq_some_iff.1 hf
  simp only [Prod.mk.injEq] at h2
  obtain ⟨n, y, hg⟩ := rd_field ht h i f h1
  rw [h2.1, h2.2, hc] at hg
  exact ⟨n, y, hg⟩
theorem rd_int {t : TypeId} {k : IntKind} {fuel : Nat} {v : Value} {x : DataW H × List MemPlace} (ht : P.underlying t = some (.int k)) (h : DataW.trod enc P w base spare held fuel t [v] = some x) : ∃ n, v = .int k n ∧ (Lit.int k n).wf = true := by
  obtain ⟨n, h1, _, h3⟩ := DataW.trod_int ht h
  exact ⟨n, by simpa using h1, h3⟩
end

theorem cells_int : Try.prog.cellsOf 3 = 1 := by kernel_rfl
theorem wf_bd {x : Int} (h : (Lit.int .i64 x).wf = true) : -9223372036854775808 ≤ x ∧ x ≤ 9223372036854775807 := by
  simpa [Lit.wf, IntKind.min, IntKind.max, IntKind.signed, IntKind.bits] using h
end Go.Proofs.Ytnbmldnahacnlaa
/- Arguments opened, as abstract values. -/
set_option maxRecDepth 100000
namespace Go.Proofs.Ytnbmldnahacnlaa
open Go Go.ChangeShapes Go.WideShapes Go.ChangeAt Go.RowKit Go.Deep

section
variable {H : Type} {enc : TypeId × Value → H} {P : Program} {w : World} {base : Nat} {spare : Nat → Bool} {held : Bool}
/-- data of the caller's -/
abbrev RelC (w : World) : AV → Value → Prop := RelD w (fun _ => False) w.heap.size
/-- one element's cells, read as enc p -/
def Reads {α : Type} (w : World) (sz : Nat) (ec : α → List AV) (Q : α → Prop) (cs : List Value) : Prop :=
  ∃ p, Q p ∧ (ec p).length = sz ∧ ∀ (j : Nat) (a : AV) (u : Value), (ec p)[j]? = some a → cs[j]? = some u → RelC w a u
theorem ro_slice {α : Type} (ec : α → List AV) (Q : α → Prop) {t e : TypeId} {sz fuel : Nat} {v : Value} {x : DataW H × List MemPlace} (ht : P.underlying t = some (.slice e)) (hz : P.cellsOf e = sz) (hc : 0 < sz)
    (hel : ∀ (fuel : Nat) (cs : List Value) (x : DataW H × List MemPlace), cs.length = sz → DataW.trod enc P w base spare held fuel e cs = some x → Reads w sz ec Q cs) (h : DataW.trod enc P w base spare held fuel t [v] = some x) :
    ∃ xs : List α, (∀ p ∈ xs, Q p) ∧ RelC w (.ro false sz (xs.map ec)) v := by
  subst hz
  obtain ⟨A, n, c, rfl, hn, hm, hi⟩ := rd_slice ht hc h
  obtain ⟨xs, hl, hq⟩ := choose_list (Q := fun i (p : α) => Q p ∧ ∃ (b o : Nat) (cs : List Value), A = some ⟨b, o, none⟩ ∧ cs.length = P.cellsOf e ∧ (∀ (j : Nat) (u : Value), cs[j]? = some u → w.cell? ⟨b, o + i * P.cellsOf e + j, none⟩ = some u) ∧ (ec p).length = P.cellsOf e ∧ ∀ (j : Nat) (a : AV) (u : Value), (ec p)[j]? = some a → cs[j]? = some u → RelC w a u) (n := n) (by
    intro i hil
    obtain ⟨b, o, cs, n', x', hA, hlen, hat, htr⟩ := hi i hil
    obtain ⟨p, h1, h2, h3⟩ := hel n' cs x' hlen htr
    exact ⟨p, h1, b, o, cs, hA, hlen, hat, h2, h3⟩)
  subst hl
  refine ⟨xs, fun p hp => ?_, ?_⟩
  · obtain ⟨i, hi⟩ := List.mem_iff_getElem?.1 hp
    exact (hq i p hi).1
  have key : ∀ (i : Nat) (row : List AV) (j : Nat) (a : AV), (xs.map ec)[i]? = some row → row[j]? = some a → ∃ b o u, A = some ⟨b, o, none⟩ ∧ w.cell? ⟨b, o + i * P.cellsOf e + j, none⟩ = some u ∧ RelC w a u := by
    intro i row j a hr ha
    rw [List.getElem?_map] at hr
    obtain ⟨p, hp, rfl⟩ := Option.map_eq_some_iff.1 hr
    obtain ⟨_, b, o, cs, hA, hlen, hat, hel, hrel⟩ := hq i p hp
    have hj : j < cs.length := by rw [hlen, ← hel]; exact (List.getElem?_eq_some_iff.1 ha).1
    have hu : cs[j]? = some cs[j] := List.getElem?_eq_getElem hj
    exact ⟨b, o, cs[j], hA, hat j _ hu, hrel j a _ ha hu⟩
  have hcon := RelD.ro (w := w) (own := fun _ => False) (bs := w.heap.size) false (P.cellsOf e) (xs.map ec) A c (fun i j => match A with
    | some ⟨b, o, _⟩ => (w.cell? ⟨b, o + i * P.cellsOf e + j, none⟩).getD undef
    | none => undef) (by simpa using hn) hm (fun i hi hA => by
      have hi : i < xs.length := by simpa using hi
      obtain ⟨_, b, o, _, h1, _⟩ := hq i xs[i] (List.getElem?_eq_getElem hi)
      rw [hA] at h1; cases h1) (fun i row j a hr ha => by
      obtain ⟨b, o, u, hA, hu, _⟩ := key i row j a hr ha
      subst hA
      exact ⟨b, o, rfl, fun h => h.elim, (fun h => by cases h), by simp [hu]⟩) (fun i row j a hr ha => by
      obtain ⟨b, o, u, hA, hu, hr⟩ := key i row j a hr ha
      subst hA
      simpa [hu] using hr)
  rw [List.length_map] at hcon
  exact hcon
theorem reads_int {k : IntKind} {e : TypeId} (ht : P.underlying e = some (.int k)) (fuel : Nat) (cs : List Value) (x : DataW H × List MemPlace) (hl : cs.length = 1) (h : DataW.trod enc P w base spare held fuel e cs = some x) :
    Reads w 1 (eI k) (fun n => (Lit.int k n).wf = true) cs := by
  obtain ⟨u, rfl⟩ : ∃ u, cs = [u] := by match cs, hl with | [u], _ => exact ⟨u, rfl⟩
  obtain ⟨n, rfl, hwf⟩ := rd_int ht h
  refine ⟨n, hwf, rfl, fun j a u ha hu => ?_⟩
  match j with
  | 0 => simp [eI] at ha hu; subst ha; subst hu; exact .int _ _
  | j + 1 => simp [eI] at ha
theorem reads_bool {e : TypeId} (ht : P.underlying e = some .bool) (fuel : Nat) (cs : List Value) (x : DataW H × List MemPlace) (hl : cs.length = 1) (h : DataW.trod enc P w base spare held fuel e cs = some x) :
    Reads w 1 eB (fun _ => True) cs := by
  obtain ⟨u, rfl⟩ : ∃ u, cs = [u] := by match cs, hl with | [u], _ => exact ⟨u, rfl⟩
  obtain ⟨n, h1, _⟩ := DataW.trod_bool ht h
  simp at h1
  subst h1
  refine ⟨n, trivial, rfl, fun j a u ha hu => ?_⟩
  match j with
  | 0 => simp [eB] at ha hu; subst ha; subst hu; exact .bool _
  | j + 1 => simp [eB] at ha
/-- three numbers in a struct -/
theorem reads_three {e ti : TypeId} {fs : Array Field} (ht : P.underlying e = some (.struct fs)) (hi : P.underlying ti = some (.int .i64)) (hc : P.cellsOf ti = 1) (f0 : (fs[0]?).map (fun f => (f.type, f.offset)) = some (ti, 0)) (f1 : (fs[1]?).map (fun f => (f.type, f.offset)) = some (ti, 1)) (f2 : (fs[2]?).map (fun f => (f.type, f.offset)) = some (ti, 2))
    (fuel : Nat) (cs : List Value) (x : DataW H × List MemPlace) (hl : cs.length = 3) (h : DataW.trod enc P w base spare held fuel e cs = some x) :
    Reads w 3 eT (fun p => (Lit.int .i64 p.1).wf = true ∧ (Lit.int .i64 p.2.1).wf = true ∧ (Lit.int .i64 p.2.2).wf = true) cs := by
  obtain ⟨u0, u1, u2, rfl⟩ : ∃ u0 u1 u2, cs = [u0, u1, u2] := by match cs, hl with | [u0, u1, u2], _ => exact ⟨u0, u1, u2, rfl⟩
  obtain ⟨_, _, g0⟩ := rd_field1 (u := u0) ht h 0 f0 hc rfl
  obtain ⟨_, _, g1⟩ := rd_field1 (u := u1) ht h 1 f1 hc rfl
  obtain ⟨_, _, g2⟩ := rd_field1 (u := u2) ht h 2 f2 hc rfl
  obtain ⟨n0, rfl, w0⟩ := rd_int hi g0
  obtain ⟨n1, rfl, w1⟩ := rd_int hi g1
  obtain ⟨n2, rfl, w2⟩ := rd_int hi g2
  refine ⟨(n0, n1, n2), ⟨w0, w1, w2⟩, rfl, fun j a u ha hu => ?_⟩
  match j with
  | 0 => simp [eT] at ha hu; subst ha; subst hu; exact .int _ _
  | 1 => simp [eT] at ha hu; subst ha; subst hu; exact .int _ _
  | 2 => simp [eT] at ha hu; subst ha; subst hu; exact .int _ _
  | j + 3 => simp [eT] at ha
theorem arg_ro {α : Type} (ec : α → List AV) (Q : α → Prop) {t e : TypeId} {sz : Nat} {v : Value} {d : DataW H} {p : List MemPlace} (ht : P.underlying t = some (.slice e)) (hz : P.cellsOf e = sz) (hc : 0 < sz)
    (hel : ∀ (fuel : Nat) (cs : List Value) (x : DataW H × List MemPlace), cs.length = sz → DataW.trod enc P w 0 spare held fuel e cs = some x → Reads w sz ec Q cs) (hv : Value.okWide P w .any base t v) (h : DataW.Trod enc P w 0 spare held t v d p) :
    ∃ xs : List α, (∀ p ∈ xs, Q p) ∧ RelC w (.ro false sz (xs.map ec)) v := by
  obtain ⟨a, n, c, rfl⟩ := okWide_slice ht hv
  obtain ⟨fuel, hf⟩ := h
  exact ro_slice ec Q ht hz hc hel hf
end
theorem argsC {w : World} {xs : List AV} {vs : Array Value} (hl : vs.size = xs.length) (h : ∀ (i : Nat) (a : AV) (v : Value), xs[i]? = some a → vs[i]? = some v → RelC w a v) : ArgsV w (Gh.none w.heap.size) xs vs :=
  ⟨hl, fun i a v ha hv => .dat (h i a v ha hv)⟩
theorem argsC1 {w : World} {x : AV} {u : Value} (h0 : RelC w x u) : ArgsV w (Gh.none w.heap.size) [x] #[u] := argsC rfl fun i a v ha hv => by
  match i with
  | 0 => simp at ha hv; subst ha; subst hv; exact h0
  | i + 1 => simp at ha
theorem argsC2 {w : World} {x0 x1 : AV} {u0 u1 : Value} (h0 : RelC w x0 u0) (h1 : RelC w x1 u1) : ArgsV w (Gh.none w.heap.size) [x0, x1] #[u0, u1] := argsC rfl fun i a v ha hv => by
  match i with
  | 0 => simp at ha hv; subst ha; subst hv; exact h0
  | 1 => simp at ha hv; subst ha; subst hv; exact h1
  | i + 2 => simp at ha
theorem argsC3 {w : World} {x0 x1 x2 : AV} {u0 u1 u2 : Value} (h0 : RelC w x0 u0) (h1 : RelC w x1 u1) (h2 : RelC w x2 u2) : ArgsV w (Gh.none w.heap.size) [x0, x1, x2] #[u0, u1, u2] := argsC rfl fun i a v ha hv => by
  match i with
  | 0 => simp at ha hv; subst ha; subst hv; exact h0
  | 1 => simp at ha hv; subst ha; subst hv; exact h1
  | 2 => simp at ha hv; subst ha; subst hv; exact h2
  | i + 3 => simp at ha
theorem argsC4 {w : World} {x0 x1 x2 x3 : AV} {u0 u1 u2 u3 : Value} (h0 : RelC w x0 u0) (h1 : RelC w x1 u1) (h2 : RelC w x2 u2) (h3 : RelC w x3 u3) : ArgsV w (Gh.none w.heap.size) [x0, x1, x2, x3] #[u0, u1, u2, u3] := argsC rfl fun i a v ha hv => by
  match i with
  | 0 => simp at ha hv; subst ha; subst hv; exact h0
  | 1 => simp at ha hv; subst ha; subst hv; exact h1
  | 2 => simp at ha hv; subst ha; subst hv; exact h2
  | 3 => simp at ha hv; subst ha; subst hv; exact h3
  | i + 4 => simp at ha
/-- a law that answers true -/
theorem AF.yes {P : Program} {F : FuncId} {xs : List AV} {vs : Array Value} {w : World} (h : AF P F xs (.bool true)) (ha : ArgsV w (Gh.none w.heap.size) xs vs) : Calls P F vs w fun e w' => e = .returned (.bool true) ∧ Below w.heap.size w w' :=
  (h.out w vs ha).mono fun e w' ⟨v, he, hb, hv⟩ => ⟨by rw [he, hv.bool'], hb⟩
end Go.Proofs.Ytnbmldnahacnlaa
/- Bitmaps, plates and masks as arguments. -/
set_option maxRecDepth 100000
namespace Go.Proofs.Ytnbmldnahacnlaa
open Go Go.ChangeShapes Go.WideShapes Go.ChangeAt Go.RowKit Go.Deep

def bitsA (w h : Int) (ds : List Int) : AV := .agg [.int .i64 w, .int .i64 h, .ro false 1 (ds.map (eI .u8))]
theorem cells_u8 : Try.prog.cellsOf 5 = 1 := by kernel_rfl
theorem cells_u8s : Try.prog.cellsOf 22 = 1 := by kernel_rfl
theorem wf_u8 {x : Int} (h : (Lit.int .u8 x).wf = true) : 0 ≤ x ∧ x ≤ 255 := by
  simpa [Lit.wf, IntKind.min, IntKind.max, IntKind.signed, IntKind.bits] using h
section
variable {H : Type} {enc : TypeId × Value → H} {w : World} {base : Nat} {spare : Nat → Bool} {held : Bool}
theorem arg_bits {t : TypeId} {fs : Array Field} {v : Value} {d : DataW H} {p : List MemPlace} (ht : Try.prog.underlying t = some (.struct fs)) (hc : Try.prog.cellsOf t = 3)
    (f0 : (fs[0]?).map (fun f => (f.type, f.offset)) = some (3, 0)) (f1 : (fs[1]?).map (fun f => (f.type, f.offset)) = some (3, 1)) (f2 : (fs[2]?).map (fun f => (f.type, f.offset)) = some (22, 2))
    (hv : Value.okWide Try.prog w .any base t v) (h : DataW.Trod enc Try.prog w 0 spare held t v d p) :
    ∃ (x y : Int) (ds : List Int), ((Lit.int .i64 x).wf = true ∧ (Lit.int .i64 y).wf = true ∧ Bytes ds) ∧ RelV w (Gh.none w.heap.size) (bitsA x y ds) v := by
  obtain ⟨cs, rfl, hsz⟩ := okWide_struct ht hv
  rw [hc] at hsz
  obtain ⟨u0, u1, u2, rfl⟩ : ∃ u0 u1 u2, cs = #[u0, u1, u2] := by
    obtain ⟨l⟩ := cs
    match l, hsz with | [u0, u1, u2], _ => exact ⟨u0, u1, u2, rfl⟩
  obtain ⟨fuel, hf⟩ := h
  obtain ⟨_, _, g0⟩ := rd_field1 (u := u0) ht hf 0 f0 cells_int rfl
  obtain ⟨_, _, g1⟩ := rd_field1 (u := u1) ht hf 1 f1 cells_int rfl
  obtain ⟨_, _, g2⟩ := rd_field1 (u := u2) ht hf 2 f2 cells_u8s rfl
  obtain ⟨x, rfl, w0⟩ := rd_int Try.underlying3 g0
  obtain ⟨y, rfl, w1⟩ := rd_int Try.underlying3 g1
  obtain ⟨ds, hd, hr⟩ := ro_slice (eI .u8) _ Try.underlying22 cells_u8 (by omega) (reads_int Try.underlying5) g2
  exact ⟨x, y, ds, ⟨w0, w1, fun d hm => wf_u8 (hd d hm)⟩, agg3_rel (.dat (.int _ _)) (.dat (.int _ _)) (.dat hr)⟩
end
theorem argsV1 {w : World} {G : Gh} {x0 : AV} {u0 : Value} (h0 : RelV w G x0 u0) : ArgsV w G [x0] #[u0] := ⟨rfl, fun i a v ha hv => by
  match i with
  | 0 => simp at ha hv; subst ha; subst hv; exact h0
  | i + 1 => simp at ha⟩
theorem argsV2 {w : World} {G : Gh} {x0 x1 : AV} {u0 u1 : Value} (h0 : RelV w G x0 u0) (h1 : RelV w G x1 u1) : ArgsV w G [x0, x1] #[u0, u1] := ⟨rfl, fun i a v ha hv => by
  match i with
  | 0 => simp at ha hv; subst ha; subst hv; exact h0
  | 1 => simp at ha hv; subst ha; subst hv; exact h1
  | i + 2 => simp at ha⟩
theorem argsV3 {w : World} {G : Gh} {x0 x1 x2 : AV} {u0 u1 u2 : Value} (h0 : RelV w G x0 u0) (h1 : RelV w G x1 u1) (h2 : RelV w G x2 u2) : ArgsV w G [x0, x1, x2] #[u0, u1, u2] := ⟨rfl, fun i a v ha hv => by
  match i with
  | 0 => simp at ha hv; subst ha; subst hv; exact h0
  | 1 => simp at ha hv; subst ha; subst hv; exact h1
  | 2 => simp at ha hv; subst ha; subst hv; exact h2
  | i + 3 => simp at ha⟩
theorem argsV4 {w : World} {G : Gh} {x0 x1 x2 x3 : AV} {u0 u1 u2 u3 : Value} (h0 : RelV w G x0 u0) (h1 : RelV w G x1 u1) (h2 : RelV w G x2 u2) (h3 : RelV w G x3 u3) : ArgsV w G [x0, x1, x2, x3] #[u0, u1, u2, u3] := ⟨rfl, fun i a v ha hv => by
  match i with
  | 0 => simp at ha hv; subst ha; subst hv; exact h0
  | 1 => simp at ha hv; subst ha; subst hv; exact h1
  | 2 => simp at ha hv; subst ha; subst hv; exact h2
  | 3 => simp at ha hv; subst ha; subst hv; exact h3
  | i + 4 => simp at ha⟩
end Go.Proofs.Ytnbmldnahacnlaa
/- SheetMeans: the law, on abstract arguments. -/
namespace Go.Proofs.Ytnbmldnahacnlaa
open Go Go.RowKit

theorem wf_i64 {x : Int} (h : (Lit.int .i64 x).wf = true) : -9223372036854775808 ≤ x ∧ x ≤ 9223372036854775807 := by
  simpa [Lit.wf, IntKind.min, IntKind.max, IntKind.signed, IntKind.bits] using h
theorem cells_lab3 : Try.prog.cellsOf 102 = 3 := by kernel_rfl
theorem sheetMeans_f {w h inks : Int} {px : List Int} {cs : List Lab3} (hb : Bytes px) (hc : ∀ p ∈ cs, (Lit.int .i64 p.1).wf = true ∧ (Lit.int .i64 p.2.1).wf = true ∧ (Lit.int .i64 p.2.2).wf = true) :
    AF Try.prog 13 [bitsA w h px, .int .i64 inks, .ro false 3 (cs.map eT)] (.bool true) := by
  refine law_SheetMeans_ok FU ((w, (h, px)), (inks, (cs, ()))) (true, ()) (law_s (Nat.le_refl _) hb fun v => ?_)
  unfold gL
  rw [List.getD_eq_getElem?_getD]
  cases e : cs[v]? with
  | none => exact ⟨by decide, by decide⟩
  | some c => exact wf_i64 (hc c (List.mem_of_getElem? e)).1
end Go.Proofs.Ytnbmldnahacnlaa
/- SheetMeans: for every input each of these laws returns true and leaves its arguments as they were. -/
namespace Go.Proofs.Ytnbmldnahacnlaa
open Go.ChangeShapes Go.WideShapes Go.ChangeAt Go.RowKit

set_option maxRecDepth 100000 in
theorem sheetMeans_lifted (os : Os) (started : os.Started) (H : Type) (enc : TypeId × Value → H) :
    ReturnsInHanded {} Try.checked os 13 .any (Rows.sheetMeansSpec.pre6 enc Try.prog Try.f13 Rows.sheetMeansRow.domain false) (Rows.sheetMeansSpec.post enc Try.prog Try.f13 false true false false) := by
  refine law_lifted started (by kernel_rfl) Try.func13
    (ChangeSpec.witness6 (enc := enc) (C := Try.checked) false ⟨#[], #[.agg #[.int .i64 0, .int .i64 0, .slice none 0 0], .int .i64 0, .slice none 0 0], []⟩ 8 (by kernel_rfl) (by kernel_rfl) (by kernel_rfl) (by kernel_rfl)) rfl rfl (by kernel_rfl)
    (fun ds h => by rw [Try.params13] at h; match ds, h with | [_, _, _], _ => rfl) ?_
  intro W base args ds ps hval hA hsz hlt
  rw [Try.params13] at hA hval hsz
  obtain ⟨v0, vs0, d0, ds0, p0, q0, rfl, rfl, rfl, h0, r0⟩ := trodAll_cons hA
  obtain ⟨v1, vs1, d1, ds1, p1, q1, rfl, rfl, rfl, h1, r1⟩ := trodAll_cons r0
  obtain ⟨v2, vs2, d2, ds2, p2, q2, rfl, rfl, rfl, h2, r2⟩ := trodAll_cons r1
  obtain ⟨rfl, rfl, rfl⟩ := trodAll_nil r2
  have hv0 := hval 0 87 v0 rfl rfl
  obtain ⟨a1, rfl, rfl, rfl, w1⟩ := open_int Try.underlying3 (hval 1 3 v1 rfl rfl) h1
  have hv2 := hval 2 98 v2 rfl rfl
  obtain ⟨x0, y0, p0, w0, q0⟩ := arg_bits Try.underlying87 (by kernel_rfl) rfl rfl rfl hv0 h0
  obtain ⟨ls, hw, r2⟩ := arg_ro eT _ Try.underlying98 cells_lab3 (by omega) (reads_three Try.underlying102 Try.underlying3 cells_int rfl rfl rfl) hv2 h2
  exact (sheetMeans_f w0.2.2 hw).yes (argsV3 q0 (rI _ _ _ _) (.dat r2))

theorem sheetMeans_holds : Rows.SheetMeansSaid :=
  OpenClaim.holds_of_wide 13 Try.f13 rfl rfl rfl rfl rfl rfl rfl ⟨rfl, rfl, rfl, rfl, rfl⟩ rfl rfl rfl rfl rfl (by kernel_rfl) Try.func13 (by kernel_rfl)
    (of_decide_eq_true (by kernel_rfl)) (by unfold Func.isWrapper; first | (rw [if_pos (by decide +kernel)]; kernel_rfl) | (rw [if_neg (by decide +kernel)]; exact ⟨rfl, rfl⟩))
    (fun os started H enc _ => sheetMeans_lifted os started H enc)
end Go.Proofs.Ytnbmldnahacnlaa
