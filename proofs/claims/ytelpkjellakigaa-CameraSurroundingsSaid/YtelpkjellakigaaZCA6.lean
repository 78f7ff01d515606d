/- CameraSurroundings: for every input this law returns true and leaves its arguments as they were. -/
import Derived.Test.YtelpkjellakigaaZCA5
import Derived.Test.YtelpkjellakigaaRows
import Derived.WalkKit
import Derived.ProofKit
import Derived.SizedLaws
import Derived.BigQuiet
import Derived.Deep.QuietTactic
import Derived.Deep.Slices
import Derived.OpenShut
import Derived.Conc.Holds
/- linear.Row at bitmaps whose row has at most one run. -/
namespace Go.Proofs.Ytelpkjellakigaa
open Go Go.RowKit Go.Shelf
attribute [local go_sem] Oper.semAt_some

def flatI (L : List (Int × Int × Int)) : List Value := L.map fun r => .int .i64 (wrap64 (r.2.2 - r.2.1))
theorem infoI : (Try.prog.info? 3).map (fun i => (i.zero,i.size,i.bytes)) = some (some (.int .i64 0),1,8) := by kernel_rfl
/-- the boxes of bitmap.Row's function value -/
def RQ (Bb Bo B1 B2 : Nat) (y : Int) (W : World) : Prop := Boxed W B1 118 (.pointer (some ⟨Bb,Bo,none⟩)) ∧ Boxed W B2 3 (.int .i64 y)
def RLi (n0 Bl : Nat) (L : List (Int × Int × Int)) (W : World) : Prop := ∃ v,Boxed W Bl 25 v ∧ W.ownsRow n0 3 1 v L.length (flatI L) ∧ True
def R0 (Bl Bz : Nat) (L : List (Int × Int × Int)) (W : World) : Prop := L = [] → Boxed W Bl 25 (.slice none 0 0) ∧ Boxed W Bz 3 (.int .i64 (-1))
def RXr (Bx : Nat) (x : Int × Int × Int) (W : World) : Prop := W.heap[Bx]? = some (.cells #[.int .i64 x.1,.int .i64 x.2.1,.int .i64 x.2.2] 270 (0,0))
theorem cells_kept {W W' : World} {row : Option Nat} {b : Nat} {cs : Array Value} {t : TypeId} {z : Nat × Nat} (h : W.heap[b]? = some (.cells cs t z)) (hg : W.grownBy W' row) (hr : ∀ r,row = some r → ∃ o : Obj,W.heap[r]? = some o ∧ o.isCells = false) : W'.heap[b]? = some (.cells cs t z) := by
  refine (hg.block b (Array.getElem?_eq_some_iff.1 h).1 fun e => ?_).trans h
  obtain ⟨o,ho,hc⟩ := hr b e.symm
  rw [h] at ho
  injection ho with ho
  subst ho
  cases hc
theorem R0_own (Bl Bz : Nat) : Own (R0 Bl Bz) := fun _ _ _ _ hs hg hr e => ⟨cells_kept (hs e).1 hg hr,cells_kept (hs e).2 hg hr⟩
theorem RQ_own (Bb Bo B1 B2 : Nat) (y : Int) : Own (fun (_ : List (Int × Int × Int)) W => RQ Bb Bo B1 B2 y W) := fun _ _ _ _ hs hg hr => ⟨cells_kept hs.1 hg hr,cells_kept hs.2 hg hr⟩
theorem kpg_b {w : World} {n0 Bb B1 B2 : Nat} (h : n0 ≤ w.heap.size) (hb : ∀ b,(b = Bb ∨ b = B1 ∨ b = B2) → b < w.heap.size) : ∀ (W : World) (l : Nat) (o o' : Obj),w.heap.size ≤ l → W.heap[l]? = some o → o.isCells = false → o.isWalk = false → Kp3 n0 Bb B1 B2 W (W.putObj l o') := fun W l o o' hl ho hc hw =>
  ⟨belowK_b h W l o o' hl ho hc hw,fun b h => (grownBy_putObj' W l o').block b (by have := hb b h;have := (Array.getElem?_eq_some_iff.1 ho).1;omega) (fun e => by injection e with e;have := hb b h;omega)⟩
theorem kpg_t {n0 Bb B1 B2 : Nat} {A B C : World} (h : Kp3 n0 Bb B1 B2 A B) (k : Kp3 n0 Bb B1 B2 B C) : Kp3 n0 Bb B1 B2 A C := ⟨h.1.trans k.1,fun b hb => (k.2 b hb).trans (h.2 b hb)⟩
theorem kpg_below {n0 Bb B1 B2 : Nat} {W W' : World} (h : Below W.heap.size W W') (h0 : n0 ≤ W.heap.size) (hb : ∀ b,(b = Bb ∨ b = B1 ∨ b = B2) → b < W.heap.size) : Kp3 n0 Bb B1 B2 W W' := ⟨h.mono h0,fun b e => h.block b (hb b e)⟩
theorem kfg_below {W W' : World} {B : Nat} (h : Below W.heap.size W W') : KeepsFrom B W W' := ⟨h.size,fun k _ _ hk _ => (h.block k (Array.getElem?_eq_some_iff.1 hk).1).trans hk⟩
theorem news_1 (w : World) (e : TypeId) (a : Value) (H : Nat) (hH : w.heap.size = H) : ∀ j u,[a][j]? = some u → (w.alloc (.cells #[a] e)).cell? ((⟨H,0,none⟩ : Addr).add j) = some u := by
  intro j u hu
  subst hH
  rw [Addr.add_lit,Nat.zero_add,World.cell?_alloc_new]
  simpa using hu
/-- two stores into boxes -/
theorem two_sets {w1 : World} {A B k : Nat} {u v : Value} (hA : k ≠ A) (hB : k ≠ B) : ((w1.setCell ⟨A,0,none⟩ u).setCell ⟨B,0,none⟩ v).heap[k]? = w1.heap[k]? :=
  (Below.heap_setCell _ _ _ _ hB).trans (Below.heap_setCell _ _ _ _ hA)
theorem below_two {n0 : Nat} {W w1 : World} {A B : Nat} {u v : Value} {tmp : Obj} (h : (W.alloc tmp).grownBy w1 none) (hn : n0 ≤ W.heap.size) (hA : n0 ≤ A) (hB : n0 ≤ B) : Below n0 W ((w1.setCell ⟨A,0,none⟩ u).setCell ⟨B,0,none⟩ v) := by
  have a0 := World.grownBy_alloc W tmp none
  have a1 := grownBy_setCell' w1 A u
  have a2 := grownBy_setCell' (w1.setCell ⟨A,0,none⟩ u) B v
  refine ⟨a2.os.trans (a1.os.trans (h.os.trans a0.os)),a2.tape.trans (a1.tape.trans (h.tape.trans a0.tape)),a2.output.trans (a1.output.trans (h.output.trans a0.output)),Nat.le_trans a0.size (Nat.le_trans h.size (Nat.le_trans a1.size a2.size)),fun k hk => ?_⟩
  rw [two_sets (by omega) (by omega),h.block k (by rw [World.size_alloc];omega) (by simp)]
  exact Below.heap_alloc W tmp k (by omega)
set_option maxRecDepth 100000 in
set_option maxHeartbeats 4000000 in
theorem lrow_calls {W : World} {Bb Bo : Nat} {w h y : Int} {ds : List Int} (hP : Pic w h ds Bb Bo W.heap.size W) (hw0 : 0 ≤ w) (hw1 : w ≤ 1024) (hh : h ≤ 1024) (hl : (ds.length : Int) = strd w * h) (hb : Bytes ds) (rs : List (Int × Int × Int)) (hrs : RF (fun x => pixB w h ds x y) w y 0 rs) (h1 : rs.length ≤ 1) :
    CallsIn Fence.wide 9 Try.prog 170 #[.pointer (some ⟨Bb,Bo,none⟩),.int .i64 y] W fun e W' => ∃ v,e = .returned v ∧ W'.ownsRow W.heap.size 3 1 v rs.length (flatI rs) ∧ Below W.heap.size W W' := by
  obtain ⟨i0,hi,hz0,hz1,hz2⟩ := info_parts infoI
  have hbb : Bb < W.heap.size := World.block_lt_of_cell? W _ hP.c0
  refine callsIn_of_wp_marks Try.func170 rfl trivial ?_ rfl
  simp only [Try.ntmps170,List.size_toArray,List.length_cons,List.length_nil,Nat.reduceAdd,Nat.reduceSub,Array.replicate_succ,Array.replicate_zero,List.push_toArray,List.append_toArray,List.nil_append,List.cons_append]
  gi_wp2_with (refine ⟨trivial,?_⟩;gi_at_call 202;refine (row_in _ _ _ _).mono ?_;rintro e W4 ⟨rfl,rfl⟩)
  have bl := (((Boxed.new W 25 (.slice none 0 0)).alloc (.cells #[.int .i64 (-1)] 3)).alloc (.cells #[.pointer (some ⟨Bb,Bo,none⟩)] 118)).alloc (.cells #[.int .i64 y] 3)
  have bz := ((Boxed.new (W.alloc (.cells #[.slice none 0 0] 25)) 3 (.int .i64 (-1))).alloc (.cells #[.pointer (some ⟨Bb,Bo,none⟩)] 118)).alloc (.cells #[.int .i64 y] 3)
  have b1 := (Boxed.new ((W.alloc (.cells #[.slice none 0 0] 25)).alloc (.cells #[.int .i64 (-1)] 3)) 118 (.pointer (some ⟨Bb,Bo,none⟩))).alloc (.cells #[.int .i64 y] 3)
  have b2 := Boxed.new (((W.alloc (.cells #[.slice none 0 0] 25)).alloc (.cells #[.int .i64 (-1)] 3)).alloc (.cells #[.pointer (some ⟨Bb,Bo,none⟩)] 118)) 3 (.int .i64 y)
  have hB5 : Below W.heap.size W ((((W.alloc (.cells #[.slice none 0 0] 25)).alloc (.cells #[.int .i64 (-1)] 3)).alloc (.cells #[.pointer (some ⟨Bb,Bo,none⟩)] 118)).alloc (.cells #[.int .i64 y] 3)) :=
    ((((Below.refl _ W).alloc (Nat.le_refl _) _).alloc (by simp) _).alloc (by simp;omega) _).alloc (by simp;omega) _
  have z5 : ((((W.alloc (.cells #[.slice none 0 0] 25)).alloc (.cells #[.int .i64 (-1)] 3)).alloc (.cells #[.pointer (some ⟨Bb,Bo,none⟩)] 118)).alloc (.cells #[.int .i64 y] 3)).heap.size = W.heap.size + 4 := by simp
  simp only [World.size_alloc] at bl bz b1 b2
  obtain ⟨W5,hW5⟩ : ∃ W5,(((W.alloc (.cells #[.slice none 0 0] 25)).alloc (.cells #[.int .i64 (-1)] 3)).alloc (.cells #[.pointer (some ⟨Bb,Bo,none⟩)] 118)).alloc (.cells #[.int .i64 y] 3) = W5 := ⟨_,rfl⟩
  rw [hW5] at bl bz b1 b2 hB5 z5 ⊢
  clear hW5
  obtain ⟨Bl,hBl⟩ : ∃ Bl,W.heap.size = Bl := ⟨_,rfl⟩
  rw [hBl] at bl bz b1 b2 hB5 z5 hbb hP ⊢
  obtain ⟨Bz,hBz⟩ : ∃ Bz,Bl + 1 = Bz := ⟨_,rfl⟩
  rw [hBz] at bz b1 b2 ⊢
  obtain ⟨B1,hB1⟩ : ∃ B1,Bz + 1 = B1 := ⟨_,rfl⟩
  rw [hB1] at b1 b2 ⊢
  obtain ⟨B2,hB2⟩ : ∃ B2,B1 + 1 = B2 := ⟨_,rfl⟩
  rw [hB2] at b2 ⊢
  have hP5 : Pic w h ds Bb Bo Bl W5 := hP.is (by rw [hBl];exact hB5)
  have hblt : ∀ b,(b = Bb ∨ b = B1 ∨ b = B2) → b < W5.heap.size := by rintro b (rfl | rfl | rfl) <;> omega
  have hOwn : OwnFrom W5.heap.size (fun pre W' => RLi Bl Bl pre W' ∧ R0 Bl Bz pre W' ∧ RQ Bb Bo B1 B2 y W' ∧ Below Bl W W') :=
    OwnFrom.and (Own.from (holdsRow_own Bl Bl 25 3 1 (fun pre => pre.length) (fun pre => flatI pre) (fun _ _ => True)) _) (OwnFrom.and (Own.from (R0_own Bl Bz) _) (OwnFrom.and (Own.from (RQ_own Bb Bo B1 B2 y) _) (ownFrom_below (by omega) (by omega))))
  refine wpIn_rangeFunc_ownH rfl (by omega) (gf := 213) (lb := #[.pointer (some ⟨B1,0,none⟩),.pointer (some ⟨B2,0,none⟩)]) rfl trivial (enters_of Try.func213 (by kernel_rfl) rfl)
    (row1_stops _ (by omega) B1 B2 Bl Bb Bo w h y ds hw0 hw1 hh hl hb rs hrs W5 b1.cell b2.cell hP5) kpg_t (kpg_b (by omega) hblt) (Below.refl _ _) (fun _ => rfl)
    (fun pre W' => RLi Bl Bl pre W' ∧ R0 Bl Bz pre W' ∧ RQ Bb Bo B1 B2 y W' ∧ Below Bl W W')
    (fun _ _ _ => False)
    hOwn
    (fun _ _ _ _ _ hs _ _ => hs)
    ⟨⟨_,bl,World.ownsRow_nil _ _ _ _,trivial⟩,fun _ => ⟨bl,bz⟩,⟨b1,b2⟩,hB5⟩
    (fun x a' W' => ∃ Bx,B2 < Bx ∧ RXr Bx x W' ∧ a' = { tmps := #[.pointer (some ⟨Bb,Bo,none⟩),.int .i64 y,undef,undef,.slice none 0 0,.pointer (some ⟨Bl,0,none⟩),.pointer (some ⟨Bz,0,none⟩),.pointer (some ⟨Bx,0,none⟩),.pointer (some ⟨Bb,Bo,none⟩),.int .i64 y,.func (.func 213) #[] #[.pointer (some ⟨B1,0,none⟩),.pointer (some ⟨B2,0,none⟩)],(.agg #[.int .i64 x.1,.int .i64 x.2.1,.int .i64 x.2.2]),undef,undef,undef,undef,undef,undef,undef,undef,undef,undef,undef,undef,undef,undef,undef,undef,undef,undef,undef,undef],defers := [] })
    (fun x a' _ X Y row hs hg hr => by obtain ⟨Bx,h1,h2,h3⟩ := hs;exact ⟨Bx,h1,cells_kept h2 hg (fun r e => (hr r e).2),h3⟩)
    ?assign0 ?body0 ?done0 ?stop0
  case assign0 =>
    rintro l pre x W6 K hI hK
    simp only [encR3]
    gi_wp2
    have hbx := (Below.refl _ W6).alloc (Nat.le_refl _) (.cells #[.int .i64 x.1,.int .i64 x.2.1,.int .i64 x.2.2] 270)
    obtain ⟨⟨v,hv,hrow,_⟩,hR0,hRQ,hBel⟩ := id hI
    have hlt2 := hRQ.2.lt
    have hlt1 := hRQ.1.lt
    exact hK _ _ (kfg_below hbx) (kpg_below hbx (by omega) (by rintro b (rfl | rfl | rfl) <;> omega)) (hOwn pre W6 _ none hI (grown_of_below hbx) (fun r e => by cases e)) ⟨W6.heap.size,by omega,World.alloc_heap_new W6 _,rfl⟩
  case body0 =>
    rintro l pre x a' W6 hl ⟨r,hr⟩ ⟨hL,hR0,hRQ,hBel⟩ ⟨Bx,hBx,bX,rfl⟩ hpl
    obtain rfl : pre = [] := by
      cases pre with
      | nil => rfl
      | cons _ _ => exfalso;simp only [List.length_cons] at hpl;omega
    obtain ⟨hv,hz⟩ := hR0 rfl
    have hcv := hv.cell
    have hcz := hz.cell
    have k1 : W6.cell? ⟨Bx,1,none⟩ = some (.int .i64 x.2.1) := by simp [World.cell?,show W6.heap[Bx]? = _ from bX]
    have k2 : W6.cell? ⟨Bx,2,none⟩ = some (.int .i64 x.2.2) := by simp [World.cell?,show W6.heap[Bx]? = _ from bX]
    have hx6 : Bx < W6.heap.size := (Array.getElem?_eq_some_iff.1 bX).1
    gi_wp2_with (gi_at_builtin;refine wpListIn_append_own _ rfl _ _ 25 rfl W6.heap.size 3 i0 (.int .i64 0) 1 8 Try.underlying25 hi hz0 hz1 hz2 rfl (by decide) _ 0 [] rfl (World.ownsRow_nil _ _ _ _) ⟨W6.heap.size,0,none⟩ 1 1 [_] rfl rfl (news_1 _ _ _ _ rfl) (by intro u hu;simp only [List.mem_singleton] at hu;subst hu;rfl) (by simp only [maxLen];omega) (by omega) (by simp) ?_;intro v' w1 hown' hgrow _;replace hgrow : (W6.alloc _).grownBy w1 none := hgrow;have ex : ∀ b,b < W6.heap.size → w1.heap[b]? = W6.heap[b]? := (fun b hb => (hgrow.block b (by rw [World.size_alloc];omega) (by simp)).trans (Below.heap_alloc W6 _ b hb));obtain ⟨g',cap',rfl⟩ := ownsRow_succ hown';have hg' := (hown'.lt g' rfl).1;have bl1 : Boxed w1 Bl 25 (.slice none 0 0) := (ex Bl hv.lt).trans hv;have hcw := bl1.cell;have hfw := bl1.frozen;have bz1 : Boxed w1 Bz 3 (.int .i64 (-1)) := (ex Bz hz.lt).trans hz;have bz2 := bz1.other (B' := Bl) (by omega) (.slice (some ⟨g',0,none⟩) 1 cap');have hcz2 := bz2.cell;have hfz2 := bz2.frozen;have kk2 : (w1.setCell ⟨Bl,0,none⟩ (.slice (some ⟨g',0,none⟩) 1 cap')).cell? ⟨Bx,2,none⟩ = some (.int .i64 x.2.2) := (World.cell?_of_block (a := ⟨Bx,2,none⟩) ((Below.heap_setCell _ _ _ _ (show Bx ≠ Bl by omega)).trans (ex Bx hx6))).trans k2)
    have hb2 := below_two (n0 := Bl) (A := Bl) (B := Bz) (u := .slice (some ⟨g',0,none⟩) 1 cap') (v := .int .i64 x.2.2) hgrow (by omega) (by omega) (by omega)
    have hk : ∀ k,k < W6.heap.size → k ≠ Bl → k ≠ Bz → ((w1.setCell ⟨Bl,0,none⟩ (.slice (some ⟨g',0,none⟩) 1 cap')).setCell ⟨Bz,0,none⟩ (.int .i64 x.2.2)).heap[k]? = W6.heap[k]? := fun k h1 h2 h3 => (two_sets h2 h3).trans (ex k h1)
    have hown2 := (hown'.kept (grownBy_setCell' w1 Bl (.slice (some ⟨g',0,none⟩) 1 cap')) (.inr (by intro e;injection e with e;have e : g' = Bl := e;have := hv.lt;omega))).kept (grownBy_setCell' _ Bz (.int .i64 x.2.2)) (.inr (by intro e;injection e with e;have e : g' = Bz := e;have := hz.lt;omega))
    refine ⟨⟨hb2.size,fun k o hB ho _ => (hk k (Array.getElem?_eq_some_iff.1 ho).1 (by omega) (by omega)).trans ho⟩,⟨hb2,fun b hb => hk b (by have := hRQ.2.lt;rcases hb with rfl | rfl | rfl <;> omega) (by rcases hb with rfl | rfl | rfl <;> omega) (by rcases hb with rfl | rfl | rfl <;> omega)⟩,
      ⟨_,(bl1.set _).other (by omega) _,⟨hown2.1,?_⟩,trivial⟩,(fun e => absurd e (by simp)),⟨(hk B1 hRQ.1.lt (by omega) (by omega)).trans hRQ.1,(hk B2 hRQ.2.lt (by omega) (by omega)).trans hRQ.2⟩,hBel.trans hb2⟩
    rcases hown2.2 with ⟨e,_⟩ | ⟨g,cap,cur,e,hb,rest⟩
    · cases e
    · exact .inr ⟨g,cap,cur,e,by omega,rest⟩
  case done0 =>
    rintro D0 ys Wq hD rfl ⟨⟨v,hv,hrow,_⟩,hR0,hRQ,hBel⟩ hD0
    have hcv := hv.cell
    gi_wp2
    refine ⟨by simp,.inl ⟨_,_,rfl,run_takeDeferred hD0,?_⟩⟩
    have e1 : Below Bl Wq (Wq.putObj D0 (.deferred none)) := belowK_b (w := W) (by omega) Wq D0 _ _ (by omega) hD0 rfl rfl
    exact ⟨_,results_tmp rfl _ _ _,v,rfl,by rw [hBl];exact ownsRow_putObj hrow _ hD0 rfl,by rw [hBl];exact hBel.trans e1⟩
  case stop0 =>
    rintro D cc pre W6 _ _ h _
    exact h.elim
end Go.Proofs.Ytelpkjellakigaa
/- linear.Row as a contract at the three rows that the facts of the camera read. -/
namespace Go.Proofs.Ytelpkjellakigaa
open Go Go.RowKit Go.Shelf

abbrev bitT : Ty := .pair (.int .i64) (.pair (.int .i64) (.list (.int .u8)))
def lrow (a : (Int × Int × List Int) × Int) : Option (List (Int × Int × Int)) :=
  if a = ((2,(1,[64])),0) then some [(0,1,2)] else if a = ((1,(2,[0,128])),0) then some [] else if a = ((1,(2,[0,128])),1) then some [(1,0,1)] else none
structure LrOk (w h y : Int) (ds : List Int) (rs : List (Int × Int × Int)) : Prop where
  w0 : 0 ≤ w
  w1 : w ≤ 1024
  h1 : h ≤ 1024
  len : (ds.length : Int) = strd w * h
  byt : Bytes ds
  rf : RF (fun x => pixB w h ds x y) w y 0 rs
  one : rs.length ≤ 1
theorem lrow_ok {w h y : Int} {ds : List Int} {rs : List (Int × Int × Int)} (e : lrow ((w,(h,ds)),y) = some rs) : LrOk w h y ds rs := by
  unfold lrow at e
  split at e
  · rename_i h0
    injection e with e;subst e
    obtain ⟨⟨rfl,rfl,rfl⟩,rfl⟩ := (by simpa only [Prod.mk.injEq] using h0 : (_ ∧ _ ∧ _) ∧ _)
    refine ⟨by omega,by omega,by omega,by decide,by intro d hd;simp at hd;omega,?_,by simp⟩
    refine .skip 0 _ (by omega) (by decide) (.run _ 2 _ (by omega) (by omega) (fun i h1 h2 => ?_) (fun h => by omega) (.done _ (by omega)))
    have : i = 1 := by omega
    subst this;decide
  · split at e
    · rename_i h0
      injection e with e;subst e
      obtain ⟨⟨rfl,rfl,rfl⟩,rfl⟩ := (by simpa only [Prod.mk.injEq] using h0 : (_ ∧ _ ∧ _) ∧ _)
      refine ⟨by omega,by omega,by omega,by decide,by intro d hd;simp at hd;omega,?_,by simp⟩
      exact .skip 0 _ (by omega) (by decide) (.done _ (by omega))
    · split at e
      · rename_i h0
        injection e with e;subst e
        obtain ⟨⟨rfl,rfl,rfl⟩,rfl⟩ := (by simpa only [Prod.mk.injEq] using h0 : (_ ∧ _ ∧ _) ∧ _)
        refine ⟨by omega,by omega,by omega,by decide,by intro d hd;simp at hd;omega,?_,by simp⟩
        refine .run 0 1 _ (by omega) (by omega) (fun i h1 h2 => ?_) (fun h => by omega) (.done _ (by omega))
        have : i = 0 := by omega
        subst this;decide
      · cases e
def linear_Row_r (_ : Nat) (a : (Int × Int × List Int) × Int × Unit) : Option (List Int × Unit) := match lrow (a.1,a.2.1) with
  | some rs => some (rs.map fun r => r.2.2 - r.2.1,())
  | none => none
def linear_Row_ctr : Ctr := ⟨.pair (.ptr bitT) (.pair (.int .i64) .unit),.pair (.list (.int .i64)) .unit,linear_Row_r,170⟩
theorem relD_int' {w : World} {own : Nat → Prop} {bs : Nat} {k : IntKind} {n : Int} {x : Value} (h : RelD w own bs (.int k n) x) : x = .int k n := by cases h;rfl
theorem bit_cells (w h : Int) (ds : List Int) : Ty.cells false bitT (w,(h,ds)) = [.int .i64 w,.int .i64 h,.ro false 1 (ds.map (Ty.cells false (.int .u8)))] := by
  simp only [Ty.cells,Ty.size,List.cons_append,List.nil_append]
theorem pic_of {W : World} {v : Value} {w h : Int} {ds : List Int} (r : RelV W (Gh.none W.heap.size) (.peek (Ty.cells false bitT (w,(h,ds))) 0) v) : ∃ b o,v = .pointer (some ⟨b,o,none⟩) ∧ Pic w h ds b o W.heap.size W := by
  rw [bit_cells] at r
  generalize hrow : [AV.int .i64 w,.int .i64 h,.ro false 1 (ds.map (Ty.cells false (.int .u8)))] = row at r
  cases r with
  | dat r => cases r
  | peek _ _ b o f hr hb h1 h2 =>
    subst hrow
    refine ⟨b,o,rfl,?_,?_,?_⟩
    · have := h1 0 _ rfl
      rw [relD_int' (h2 0 _ rfl)] at this
      exact this
    · have := h1 1 _ rfl
      rw [relD_int' (h2 1 _ rfl)] at this
      exact this
    · have e := h1 2 _ rfl
      have r := h2 2 _ rfl
      generalize f 2 = u at e r
      cases r with
      | ro _ _ rows A c f hc hm h0 h1 h2 =>
        have hl : (ds.map (Ty.cells false (.int .u8))).length = ds.length := List.length_map ..
        rw [hl] at hc h0 e
        refine ⟨A,c,e,hc,hm,h0,fun i v hv => ?_⟩
        have g1 : (ds.map (Ty.cells false (.int .u8)))[i]? = some [.int .u8 v] := by rw [List.getElem?_map,hv];rfl
        obtain ⟨b,o,e1,_,_,e2⟩ := h1 i _ 0 _ g1 rfl
        have e3 := h2 i _ 0 _ g1 rfl
        have e4 : f i 0 = .int .u8 v := relD_int' e3
        rw [e4,Nat.mul_one,Nat.add_zero] at e2
        exact ⟨b,o,e1,World.block_lt_of_cell? W _ e2,e2⟩
theorem ints_ro {W W' : World} {v : Value} {L : List Int} (h : W'.ownsRow W.heap.size 3 1 v L.length (L.map fun n => .int .i64 n)) : RelV W' (Gh.frz W.heap.size) (.ro true 1 (L.map (Ty.cells true (.int .i64)))) v := by
  have hl : (L.map (Ty.cells true (.int .i64))).length = L.length := List.length_map ..
  have hx : ∀ (i j : Nat) (row : List AV) (a : AV),(L.map (Ty.cells true (.int .i64)))[i]? = some row → row[j]? = some a → j = 0 ∧ ∃ n,L[i]? = some n ∧ a = .int .i64 n := by
    intro i j row a g1 g2
    rw [List.getElem?_map] at g1
    obtain ⟨n,hn,e⟩ := Option.map_eq_some_iff.1 g1
    subst e
    rw [Ty.cells] at g2
    cases j with
    | succ j => simp at g2
    | zero => simp at g2;exact ⟨rfl,n,hn,g2.symm⟩
  rcases h.2 with ⟨rfl,h3⟩ | ⟨g,cap,cur,rfl,hb,hg,hc,hm,hs,ht⟩
  · have : L = [] := List.eq_nil_of_length_eq_zero h3
    subst this
    exact .dat (.ro true 1 [] none 0 (fun _ _ => undef) (by simp) (by simp [maxLen]) (fun i hi => absurd hi (by simp)) (fun i row j a g1 _ => by simp at g1) (fun i row j a g1 _ => by simp at g1))
  · have hr := RelD.ro (w := W') (own := (Gh.frz W.heap.size).own) (bs := (Gh.frz W.heap.size).bs) true 1 (L.map (Ty.cells true (.int .i64))) (some ⟨g,0,none⟩) cap (fun i _ => .int .i64 (L.getD i 0)) (by rw [hl];exact hc) hm (fun _ _ => by simp) (fun i row j a g1 g2 => ?_) (fun i row j a g1 g2 => ?_)
    · rw [hl] at hr;exact .dat hr
    · obtain ⟨rfl,n,hn,rfl⟩ := hx i j row a g1 g2
      refine ⟨g,0,rfl,fun h => by have h : g < W.heap.size := h;omega,fun _ => hb,?_⟩
      have := h.cells (g := g) rfl i (.int .i64 n) (by rw [List.getElem?_map,hn];rfl)
      rw [Addr.add_lit] at this
      rw [Nat.mul_one,Nat.add_zero,this,List.getD_eq_getElem?_getD,hn];rfl
    · obtain ⟨rfl,n,hn,rfl⟩ := hx i j row a g1 g2
      rw [List.getD_eq_getElem?_getD,hn]
      exact .int .i64 n
theorem flatI_eq {rs : List (Int × Int × Int)} (h : ∀ r ∈ rs,wrap64 (r.2.2 - r.2.1) = r.2.2 - r.2.1) : flatI rs = (rs.map fun r => r.2.2 - r.2.1).map fun n => .int .i64 n := by
  unfold flatI
  rw [List.map_map]
  refine List.map_congr_left fun r hr => ?_
  show Value.int .i64 (wrap64 _) = _
  rw [h r hr];rfl
theorem lrow_wr {a : (Int × Int × List Int) × Int} {rs : List (Int × Int × Int)} (e : lrow a = some rs) : ∀ r ∈ rs,wrap64 (r.2.2 - r.2.1) = r.2.2 - r.2.1 := by
  unfold lrow at e
  intro r hr
  split at e
  · injection e with e;subst e
    simp only [List.mem_singleton] at hr;subst hr;exact (show wrap64 1 = 1 by unfold wrap64;decide)
  · split at e
    · injection e with e;subst e;cases hr
    · split at e
      · injection e with e;subst e
        simp only [List.mem_singleton] at hr;subst hr;exact (show wrap64 1 = 1 by unfold wrap64;decide)
      · cases e
theorem linear_Row_ok : CtrOk Try.prog 170 linear_Row_ctr := fun fu x z hz => by
  obtain ⟨⟨w,h,ds⟩,y,⟨⟩⟩ := x
  have hz : linear_Row_r fu ((w,(h,ds)),(y,())) = some z := hz
  unfold linear_Row_r at hz
  split at hz
  · rename_i rs hrs
    have hrs : lrow ((w,(h,ds)),y) = some rs := hrs
    injection hz with hz
    subst hz
    obtain ⟨w0,w1,h1,len,byt,rf,one⟩ := lrow_ok hrs
    have hwr := lrow_wr hrs
    refine ⟨fun W vs ha => ?_⟩
    obtain ⟨u,t,rfl⟩ : ∃ u t,vs = #[u,t] := by
      have := ha.size
      obtain ⟨l⟩ := vs
      match l,this with
      | [u,t],_ => exact ⟨u,t,rfl⟩
    have h0 : RelV W (Gh.none W.heap.size) (.peek (Ty.cells false bitT (w,(h,ds))) 0) u := ha.rel 0 _ u rfl rfl
    have hy := (ha.rel 1 _ t rfl rfl : RelV W (Gh.none W.heap.size) (.int .i64 y) t).int'
    subst hy
    obtain ⟨b,o,rfl,hP⟩ := pic_of h0
    refine (callsIn_wide.1 (lrow_calls hP w0 w1 h1 len byt rs rf one)).mono ?_
    rintro e W' ⟨v,rfl,hown,hB⟩
    rw [flatI_eq hwr] at hown
    have hown : W'.ownsRow W.heap.size 3 1 v (rs.map fun r => r.2.2 - r.2.1).length ((rs.map fun r => r.2.2 - r.2.1).map fun n => .int .i64 n) := by rw [List.length_map];exact hown
    exact ⟨_,rfl,hB,ints_ro hown⟩
  · cases hz
end Go.Proofs.Ytelpkjellakigaa
/- cameraWorks,by a run with short tables. -/
set_option maxRecDepth 1000000
namespace Go.Proofs.Ytelpkjellakigaa
open Go Go.RowKit
def cameraWorks_tab : Tab := {
  und := [(3,.int .i64),
    (5,.int .u8),
    (95, .struct #[fd "W" 3 0 false "" 0, fd "H" 3 1 false "" 8, fd "Pix" 52 2 false "" 16]),
    (52,.slice 5),
    (94, .struct #[fd "Scale" 3 0 false "" 0, fd "X" 3 1 false "" 8, fd "Y" 3 2 false "" 16, fd "Turn" 3 3 false "" 24, fd "Blur" 3 4 false "" 32, fd "Light" 3 5 false "" 40, fd "Dark" 3 6 false "" 48, fd "Noise" 25 7 false "" 56]),
    (118,.pointer 54),
    (278,.array 6 3),
    (54, .struct #[fd "W" 3 0 false "" 0, fd "H" 3 1 false "" 8, fd "Data" 52 2 false "" 16]),
    (25,.slice 3),
    (279,.array 4 3),
    (144,.pointer 95),
    (9,.string),
    (26,.int .i64),
    (262,.slice 278),
    (270, .struct #[fd "Y" 3 0 false "" 0, fd "X0" 3 1 false "" 8, fd "X1" 3 2 false "" 16]),
    (4,.bool),
    (226,.func #[3,3] #[] false),
    (116,.func #[3,3] #[4] false)],
  inf := [(3,(some (.int .i64 0),1,8)),
    (5,(some (.int .u8 0),1,1)),
    (95,(some (.agg #[.int .i64 0,.int .i64 0,.slice none 0 0]),3,40)),
    (52,(some (.slice none 0 0),1,24)),
    (94,(some (.agg #[.int .i64 0,.int .i64 0,.int .i64 0,.int .i64 0,.int .i64 0,.int .i64 0,.int .i64 0,.slice none 0 0]),8,80)),
    (118,(some (.pointer none),1,8)),
    (278,(some (.agg #[.int .i64 0,.int .i64 0,.int .i64 0,.int .i64 0,.int .i64 0,.int .i64 0]),6,48)),
    (54,(some (.agg #[.int .i64 0,.int .i64 0,.slice none 0 0]),3,40)),
    (25,(some (.slice none 0 0),1,24)),
    (279,(some (.agg #[.int .i64 0,.int .i64 0,.int .i64 0,.int .i64 0]),4,32)),
    (144,(some (.pointer none),1,8)),
    (9,(some (.string ByteArray.empty),1,16)),
    (26,(some (.int .i64 0),1,8)),
    (262,(some (.slice none 0 0),1,24)),
    (270,(some (.agg #[.int .i64 0,.int .i64 0,.int .i64 0]),3,24)),
    (4,(some (.bool false),1,1)),
    (226,(some (.nilFunc),1,8)),
    (116,(some (.nilFunc),1,8))],
  fld := [(95,[(0,(1,false)),(1,(1,false)),(2,(1,false))]),
    (94,[(0,(1,false)),(1,(1,false)),(2,(1,false)),(3,(1,false)),(4,(1,false)),(5,(1,false)),(6,(1,false)),(7,(1,false))]),
    (54,[(0,(1,false)),(1,(1,false)),(2,(1,false))]),
    (270,[(0,(1,false)),(1,(1,false)),(2,(1,false))])],
  eqs := [(278,6),(279,4),(270,3)] }
theorem cameraWorks_tab_ok : cameraWorks_tab.ok Try.prog := ⟨(by unfold cameraWorks_tab;(repeat (refine alP1 (by kernel_rfl) ?_));exact trivial),
  (by unfold cameraWorks_tab;(repeat (refine alP1 (by kernel_rfl) ?_));exact trivial),
  (by unfold cameraWorks_tab;(repeat (refine alP1 (by kernel_rfl) ?_));exact trivial),
  (by unfold cameraWorks_tab;(repeat (refine alP1 ⟨by kernel_rfl,by kernel_rfl⟩ ?_));exact trivial)⟩
noncomputable def cameraWorks_ctx : Ctx := ⟨cameraWorks_tab,[(58,Try.f58),(59,Try.f59),(81,Try.f81),(115,Try.f115),(61,Try.f61),(100,Try.f100),(135,Try.f135),(82,Try.f82),(134,Try.f134),(84,Try.f84),(104,Try.f104),(136,Try.f136),(101,Try.f101),(72,Try.f72),(64,Try.f64),(63,Try.f63),(103,Try.f103),(99,Try.f99),(133,Try.f133),(170,Try.f170),(202,Try.f202),(213,Try.f213),(169,Try.f169),(198,Try.f198),(212,Try.f212),(199,Try.f199),(200,Try.f200),(201,Try.f201),(43,Try.f43),(50,Try.f50)],[(58,0),(59,0),(81,0),(115,0),(61,0),(100,0),(135,0),(82,0),(134,0),(84,0),(104,0),(136,0),(101,0),(72,0),(64,0),(63,0),(103,0),(99,0),(133,0),(170,0),(202,0),(213,0),(169,0),(198,0),(212,0),(199,0),(200,0),(201,0),(43,0),(50,0)]⟩
def cameraWorks_cas : List (Nat × Nat) := [(58,0),(59,0),(81,0),(115,0),(61,0),(100,0),(135,0),(82,0),(134,0),(84,0),(104,0),(136,0),(101,0),(72,0),(64,0),(63,0),(103,0),(99,0),(133,0),(170,0),(202,0),(213,0),(169,0),(198,0),(212,0),(199,0),(200,0),(201,0),(43,0),(50,0)]
theorem cameraWorks_ctx_ok : cameraWorks_ctx.ok Try.prog := ⟨cameraWorks_tab_ok,⟨Try.func58,⟨Try.func59,⟨Try.func81,⟨Try.func115,⟨Try.func61,⟨Try.func100,⟨Try.func135,⟨Try.func82,⟨Try.func134,⟨Try.func84,⟨Try.func104,⟨Try.func136,⟨Try.func101,⟨Try.func72,⟨Try.func64,⟨Try.func63,⟨Try.func103,⟨Try.func99,⟨Try.func133,⟨Try.func170,⟨Try.func202,⟨Try.func213,⟨Try.func169,⟨Try.func198,⟨Try.func212,⟨Try.func199,⟨Try.func200,⟨Try.func201,⟨Try.func43,⟨Try.func50,trivial⟩⟩⟩⟩⟩⟩⟩⟩⟩⟩⟩⟩⟩⟩⟩⟩⟩⟩⟩⟩⟩⟩⟩⟩⟩⟩⟩⟩⟩⟩,(by unfold cameraWorks_cas;(repeat (refine alP1 (by kernel_rfl) ?_));exact trivial : allP (fun k _ => callable Try.prog k = true) cameraWorks_cas),by kernel_rfl⟩
noncomputable def cameraWorks_orc : List (Nat × Ctr) := [(linear_Row_ctr.nm,linear_Row_ctr),(camera_CaptureT_ctr.nm,camera_CaptureT_ctr),(bitmap_Turned_ctr.nm,bitmap_Turned_ctr),(bitmap_Is_ctr.nm,bitmap_Is_ctr),(bitmap_Check_ctr.nm,bitmap_Check_ctr),(curve_Nearest_ctr.nm,curve_Nearest_ctr)]
theorem cameraWorks_orc_ok : allP (CtrOk Try.prog) cameraWorks_orc := ⟨linear_Row_ok,⟨camera_CaptureT_ok,⟨bitmap_Turned_ok,⟨bitmap_Is_ok,⟨bitmap_Check_ok,⟨curve_Nearest_ok,trivial⟩⟩⟩⟩⟩⟩
theorem cameraWorks_f : AF Try.prog 58 [] (.bool true) := Rn.AF.runO cameraWorks_ctx_ok 1000 100000 20 cameraWorks_orc_ok (by kernel_rfl)
def law_cameraWorks_r (_ : Nat) (_ : Unit) : Option (Bool × Unit) := some (true,())
def law_cameraWorks_ctr : Ctr := ⟨.unit,.pair .bool .unit,law_cameraWorks_r,58⟩
theorem law_cameraWorks_ok : CtrOk Try.prog 58 law_cameraWorks_ctr := fun _ _ y h => by
  have h : some (true,()) = some y := h
  injection h with h
  subst h
  exact cameraWorks_f
end Go.Proofs.Ytelpkjellakigaa
/- Residual programs of functions (printed by a program out of the code),checked by the kernel,and the contracts that follow. -/
namespace Go.Proofs.Ytelpkjellakigaa
open Go Go.RowKit
set_option linter.unusedVariables false
def R_SameBytes_r (fu : Nat) (a : List Int × List Int × Unit) : Option (Bool × Unit) :=
  let v0 : Bool := (decide ((bytesOf a.1) = (bytesOf a.2.1)))
  some ((v0,()))
def R_SameBytes_an : An := (.n none .z (.n none .z .z))
noncomputable def R_SameBytes_dc : List (Nat × Ctr) := []
def R_SameBytes_ctr : Ctr := ⟨(.pair (.list (.int .u8)) (.pair (.list (.int .u8)) .unit)),(.pair .bool .unit),R_SameBytes_r,50⟩
theorem R_SameBytes_ok : CtrOk Try.prog 50 R_SameBytes_ctr := ctr_ok (l := R_SameBytes_dc) (f := 12) (an := R_SameBytes_an) trivial fun fu x => by kernel_rfl
def R_SameBits_r (fu : Nat) (a : (Int × Int × List Int) × (Int × Int × List Int) × Unit) : Option (Bool × Unit) :=
  bif (decide (a.1.1 = a.2.1.1)) then
    bif (decide (a.1.2.1 = a.2.1.2.1)) then
      bindO (R_SameBytes_r fu ((a.1.2.2,(a.2.1.2.2,())))) fun v0 =>
      let v1 : Bool := v0.1
      some ((v1,()))
    else
    some ((false,()))
  else
  some ((false,()))
def R_SameBits_an : An := (.n none .z (.n none .z .z))
noncomputable def R_SameBits_dc : List (Nat × Ctr) := [(50,R_SameBytes_ctr)]
def R_SameBits_ctr : Ctr := ⟨(.pair (.agg (.pair (.int .i64) (.pair (.int .i64) (.list (.int .u8))))) (.pair (.agg (.pair (.int .i64) (.pair (.int .i64) (.list (.int .u8))))) .unit)),(.pair .bool .unit),R_SameBits_r,43⟩
theorem R_SameBits_ok : CtrOk Try.prog 43 R_SameBits_ctr := ctr_ok (l := R_SameBits_dc) (f := 12) (an := R_SameBits_an) ⟨R_SameBytes_ok,trivial⟩ fun fu x => by kernel_rfl
def R_Drawn_j2 (fu : Nat) (j1 : (Int × List Int) → Option ((Int × Int × List Int) × Unit)) (v2 : Int × List Int) : Option ((Int × Int × List Int) × Unit) :=
  j1 (((IntKind.i64.wrap (v2.1 + (1 : Int))),v2.2))
def R_Drawn_l1 (fu : Nat) (a : Int × Int × List Bool × Unit) (v0 : Int) (j1 : (Int × List Int) → Option ((Int × Int × List Int) × Unit)) (v1 : Int × List Int) : Option ((Int × Int × List Int) × Unit) :=
  bif (decide (v1.1 < (List.length a.2.2.1 : Int))) then
    joinF (R_Drawn_j2 fu j1) fun j2 =>
    bif ((decide ((0 : Int) ≤ v1.1)) && (decide (v1.1 < (List.length a.2.2.1 : Int)))) then
    let v3 : Bool := (List.getD a.2.2.1 (Int.toNat v1.1) false)
    let v4 : Int := v1.1
    bif v3 then
      bif (decide (a.1 ≠ (0 : Int))) then
      bif (decide (a.1 ≠ (0 : Int))) then
      bif ((decide ((0 : Int) ≤ (IntKind.i64.wrap ((IntKind.i64.wrap ((IntKind.i64.wrap (Int.tdiv v4 a.1)) * v0)) + (IntKind.i64.wrap (Int.tdiv (Int.tmod v4 a.1) (8 : Int))))))) && (decide ((IntKind.i64.wrap ((IntKind.i64.wrap ((IntKind.i64.wrap (Int.tdiv v4 a.1)) * v0)) + (IntKind.i64.wrap (Int.tdiv (Int.tmod v4 a.1) (8 : Int))))) < (List.length v1.2 : Int)))) then
      bif (decide (a.1 ≠ (0 : Int))) then
      bif ((decide ((0 : Int) ≤ (Int.tmod (Int.tmod v4 a.1) (8 : Int)))) && (decide ((Int.tmod (Int.tmod v4 a.1) (8 : Int)) ≤ (8 : Int)))) then
      bif ((decide ((0 : Int) ≤ (IntKind.i64.wrap ((IntKind.i64.wrap ((IntKind.i64.wrap (Int.tdiv v4 a.1)) * v0)) + (IntKind.i64.wrap (Int.tdiv (Int.tmod v4 a.1) (8 : Int))))))) && (decide ((IntKind.i64.wrap ((IntKind.i64.wrap ((IntKind.i64.wrap (Int.tdiv v4 a.1)) * v0)) + (IntKind.i64.wrap (Int.tdiv (Int.tmod v4 a.1) (8 : Int))))) < (List.length v1.2 : Int)))) then
      j2 ((v1.1,(List.set v1.2 (Int.toNat (IntKind.i64.wrap ((IntKind.i64.wrap ((IntKind.i64.wrap (Int.tdiv v4 a.1)) * v0)) + (IntKind.i64.wrap (Int.tdiv (Int.tmod v4 a.1) (8 : Int)))))) (bits BinOp.or IntKind.u8 (List.getD v1.2 (Int.toNat (IntKind.i64.wrap ((IntKind.i64.wrap ((IntKind.i64.wrap (Int.tdiv v4 a.1)) * v0)) + (IntKind.i64.wrap (Int.tdiv (Int.tmod v4 a.1) (8 : Int)))))) 0) ((128 : Int) / 2 ^ (Int.toNat (Int.tmod (Int.tmod v4 a.1) (8 : Int))))))))
      else none
      else none
      else none
      else none
      else none
      else none
    else
    j2 (v1)
    else none
  else
  some (((a.1,(a.2.1,v1.2)),()))
def R_Drawn_r (fu : Nat) (a : Int × Int × List Bool × Unit) : Option ((Int × Int × List Int) × Unit) :=
  let v0 : Int := (IntKind.i64.wrap (Int.tdiv (IntKind.i64.wrap (a.1 + (7 : Int))) (8 : Int)))
  bif ((decide ((0 : Int) ≤ (IntKind.i64.wrap (v0 * a.2.1)))) && (decide (((1 : Int) * (IntKind.i64.wrap (v0 * a.2.1))) ≤ (281474976710656 : Int)))) then
  loopF (R_Drawn_l1 fu a v0) fu (((0 : Int),(List.replicate (Int.toNat (IntKind.i64.wrap (v0 * a.2.1))) (0 : Int))))
  else none
def R_Drawn_an : An := (.n none .z (.n none .z (.n none .z (.n none (.n none .z (.n none (.n (some ⟨[6,8,21,0,7,22],[0,2],[],[.reg 23 (.int .i64),.row 1 true (.int .u8) 5 0],0,[]⟩) (.n none .z (.n none .z (.n (some ⟨[],[],[],[.reg 23 (.int .i64),.row 1 true (.int .u8) 5 0],0,[]⟩) (.n none (.n none .z (.n none .z (.n none (.dr [] []) .z))) .z) .z))) .z) .z)) (.n none .z .z)))))
noncomputable def R_Drawn_dc : List (Nat × Ctr) := []
def R_Drawn_ctr : Ctr := ⟨(.pair (.int .i64) (.pair (.int .i64) (.pair (.list .bool) .unit))),(.pair (.agg (.pair (.int .i64) (.pair (.int .i64) (.list (.int .u8))))) .unit),R_Drawn_r,41⟩
theorem R_Drawn_ok : CtrOk Try.prog 41 R_Drawn_ctr := ctr_ok (l := R_Drawn_dc) (f := 12) (an := R_Drawn_an) trivial fun fu x => by kernel_rfl
def R_NoBits_r (fu : Nat) (a : (Int × Int × List Int) × Unit) : Option (Bool × Unit) :=
  bif (decide (a.1.1 = (0 : Int))) then
    bif (decide (a.1.2.1 = (0 : Int))) then
      let v0 : Bool := (decide ((List.length a.1.2.2 : Int) = (0 : Int)))
      some ((v0,()))
    else
    some ((false,()))
  else
  some ((false,()))
def R_NoBits_an : An := (.n none .z (.n none .z .z))
noncomputable def R_NoBits_dc : List (Nat × Ctr) := []
def R_NoBits_ctr : Ctr := ⟨(.pair (.agg (.pair (.int .i64) (.pair (.int .i64) (.list (.int .u8))))) .unit),(.pair .bool .unit),R_NoBits_r,86⟩
theorem R_NoBits_ok : CtrOk Try.prog 86 R_NoBits_ctr := ctr_ok (l := R_NoBits_dc) (f := 12) (an := R_NoBits_an) trivial fun fu x => by kernel_rfl
def law_refused_r (fu : Nat) (a : (Int × Int × List Int) × Int × Int × Unit) : Option (Bool × Unit) :=
  bindO (R_NoBits_r fu ((a.1,()))) fun v0 =>
  bif v0.1 then
    let v1 : Bool := (decide (a.2.1 = a.2.2.1))
    some ((v1,()))
  else
  some ((false,()))
def law_refused_an : An := (.n none .z (.n none .z .z))
noncomputable def law_refused_dc : List (Nat × Ctr) := [(86,R_NoBits_ctr)]
def law_refused_ctr : Ctr := ⟨(.pair (.agg (.pair (.int .i64) (.pair (.int .i64) (.list (.int .u8))))) (.pair (.int .i64) (.pair (.int .i64) .unit))),(.pair .bool .unit),law_refused_r,40⟩
theorem law_refused_ok : CtrOk Try.prog 40 law_refused_ctr := ctr_ok (l := law_refused_dc) (f := 12) (an := law_refused_an) ⟨R_NoBits_ok,trivial⟩ fun fu x => by kernel_rfl
def camera_Check_j1 (fu : Nat) (a : (Int × Int × List Int) × Unit) (v0 : Bool) : Option (Int × Unit) :=
  bif v0 then
    some (((3 : Int),()))
  else
  bif (decide ((List.length a.1.2.2 : Int) ≠ (IntKind.i64.wrap (a.1.1 * a.1.2.1)))) then
    some (((4 : Int),()))
  else
  some (((0 : Int),()))
def camera_Check_r (fu : Nat) (a : (Int × Int × List Int) × Unit) : Option (Int × Unit) :=
  joinF (camera_Check_j1 fu a) fun j0 =>
  bif (decide (a.1.1 < (1 : Int))) then
    j0 (true)
  else
  bif (decide ((1024 : Int) < a.1.1)) then
    j0 (true)
  else
  bif (decide (a.1.2.1 < (1 : Int))) then
    j0 (true)
  else
  j0 ((decide ((1024 : Int) < a.1.2.1)))
def camera_Check_an : An := (.n none .z (.n none (.n (some ⟨[1],[0],[],[.reg 20 .bool],0,[]⟩) .z (.n none (.n none .z .z) .z)) (.n none (.n none .z (.n none (.n none .z .z) .z)) (.n none .z .z))))
noncomputable def camera_Check_dc : List (Nat × Ctr) := []
def camera_Check_ctr : Ctr := ⟨(.pair (.agg (.pair (.int .i64) (.pair (.int .i64) (.list (.int .u8))))) .unit),(.pair (.int .i64) .unit),camera_Check_r,63⟩
theorem camera_Check_ok : CtrOk Try.prog 63 camera_Check_ctr := ctr_ok (l := camera_Check_dc) (f := 12) (an := camera_Check_an) trivial fun fu x => by kernel_rfl
def camera_Adaptive_l3 (fu : Nat) (a : (Int × Int × List Int) × Int × Int × Unit) (v3 : Int) (v4 : Int × List Int) (v5 : Int) (j4 : (Int × List Int) → Option ((Int × Int × List Int) × Int × Unit)) (j6 : (Int × List Int) → Option ((Int × Int × List Int) × Int × Unit)) (v6 : Int × List Int) : Option ((Int × Int × List Int) × Int × Unit) :=
  bif (decide (v6.1 < a.1.1)) then
    let v7 : Int := v6.1
    bif ((decide ((0 : Int) ≤ (IntKind.i64.wrap ((IntKind.i64.wrap (v5 * a.1.1)) + v7)))) && (decide ((IntKind.i64.wrap ((IntKind.i64.wrap (v5 * a.1.1)) + v7)) < (List.length a.1.2.2 : Int)))) then
    let v8 : Int := (List.getD a.1.2.2 (Int.toNat (IntKind.i64.wrap ((IntKind.i64.wrap (v5 * a.1.1)) + v7))) 0)
    bif ((decide ((0 : Int) ≤ (IntKind.i64.wrap ((IntKind.i64.wrap ((IntKind.i64.wrap (v5 * v3)) + v7)) + (1 : Int))))) && (decide ((IntKind.i64.wrap ((IntKind.i64.wrap ((IntKind.i64.wrap (v5 * v3)) + v7)) + (1 : Int))) < (List.length v6.2 : Int)))) then
    bif ((decide ((0 : Int) ≤ (IntKind.i64.wrap ((IntKind.i64.wrap ((IntKind.i64.wrap (v5 + (1 : Int))) * v3)) + v7)))) && (decide ((IntKind.i64.wrap ((IntKind.i64.wrap ((IntKind.i64.wrap (v5 + (1 : Int))) * v3)) + v7)) < (List.length v6.2 : Int)))) then
    bif ((decide ((0 : Int) ≤ (IntKind.i64.wrap ((IntKind.i64.wrap (v5 * v3)) + v7)))) && (decide ((IntKind.i64.wrap ((IntKind.i64.wrap (v5 * v3)) + v7)) < (List.length v6.2 : Int)))) then
    bif ((decide ((0 : Int) ≤ (IntKind.i64.wrap ((IntKind.i64.wrap ((IntKind.i64.wrap ((IntKind.i64.wrap (v5 + (1 : Int))) * v3)) + v7)) + (1 : Int))))) && (decide ((IntKind.i64.wrap ((IntKind.i64.wrap ((IntKind.i64.wrap ((IntKind.i64.wrap (v5 + (1 : Int))) * v3)) + v7)) + (1 : Int))) < (List.length v6.2 : Int)))) then
    j6 (((IntKind.i64.wrap (v6.1 + (1 : Int))),(List.set v6.2 (Int.toNat (IntKind.i64.wrap ((IntKind.i64.wrap ((IntKind.i64.wrap ((IntKind.i64.wrap (v5 + (1 : Int))) * v3)) + v7)) + (1 : Int)))) (IntKind.i64.wrap ((IntKind.i64.wrap ((IntKind.i64.wrap ((IntKind.i64.wrap v8) + (List.getD v6.2 (Int.toNat (IntKind.i64.wrap ((IntKind.i64.wrap ((IntKind.i64.wrap (v5 * v3)) + v7)) + (1 : Int)))) 0))) + (List.getD v6.2 (Int.toNat (IntKind.i64.wrap ((IntKind.i64.wrap ((IntKind.i64.wrap (v5 + (1 : Int))) * v3)) + v7))) 0))) - (List.getD v6.2 (Int.toNat (IntKind.i64.wrap ((IntKind.i64.wrap (v5 * v3)) + v7))) 0))))))
    else none
    else none
    else none
    else none
    else none
  else
  j4 (((IntKind.i64.wrap (v4.1 + (1 : Int))),v6.2))
def camera_Adaptive_j6 (fu : Nat) (j8 : (Int × List Int) → Option ((Int × Int × List Int) × Int × Unit)) (v9 : Int × List Int) : Option ((Int × Int × List Int) × Int × Unit) :=
  j8 (((IntKind.i64.wrap (v9.1 + (1 : Int))),v9.2))
def camera_Adaptive_l5 (fu : Nat) (a : (Int × Int × List Int) × Int × Int × Unit) (v3 : Int) (v4 : Int × List Int) (v6 : Int × List Int) (v7 : Int) (j6 : (Int × List Int) → Option ((Int × Int × List Int) × Int × Unit)) (j8 : (Int × List Int) → Option ((Int × Int × List Int) × Int × Unit)) (v8 : Int × List Int) : Option ((Int × Int × List Int) × Int × Unit) :=
  bif (decide (v8.1 < a.1.1)) then
    joinF (camera_Adaptive_j6 fu j8) fun j9 =>
    let v10 : Int := v8.1
    let v11 : Int := (max (0 : Int) (IntKind.i64.wrap (v10 - a.2.1)))
    let v12 : Int := (min a.1.1 (IntKind.i64.wrap ((IntKind.i64.wrap (v10 + a.2.1)) + (1 : Int))))
    let v13 : Int := (max (0 : Int) (IntKind.i64.wrap (v7 - a.2.1)))
    let v14 : Int := (min a.1.2.1 (IntKind.i64.wrap ((IntKind.i64.wrap (v7 + a.2.1)) + (1 : Int))))
    bif ((decide ((0 : Int) ≤ (IntKind.i64.wrap ((IntKind.i64.wrap (v14 * v3)) + v12)))) && (decide ((IntKind.i64.wrap ((IntKind.i64.wrap (v14 * v3)) + v12)) < (List.length v4.2 : Int)))) then
    bif ((decide ((0 : Int) ≤ (IntKind.i64.wrap ((IntKind.i64.wrap (v13 * v3)) + v12)))) && (decide ((IntKind.i64.wrap ((IntKind.i64.wrap (v13 * v3)) + v12)) < (List.length v4.2 : Int)))) then
    bif ((decide ((0 : Int) ≤ (IntKind.i64.wrap ((IntKind.i64.wrap (v14 * v3)) + v11)))) && (decide ((IntKind.i64.wrap ((IntKind.i64.wrap (v14 * v3)) + v11)) < (List.length v4.2 : Int)))) then
    bif ((decide ((0 : Int) ≤ (IntKind.i64.wrap ((IntKind.i64.wrap (v13 * v3)) + v11)))) && (decide ((IntKind.i64.wrap ((IntKind.i64.wrap (v13 * v3)) + v11)) < (List.length v4.2 : Int)))) then
    let v15 : Int := (IntKind.i64.wrap ((IntKind.i64.wrap ((IntKind.i64.wrap ((List.getD v4.2 (Int.toNat (IntKind.i64.wrap ((IntKind.i64.wrap (v14 * v3)) + v12))) 0) - (List.getD v4.2 (Int.toNat (IntKind.i64.wrap ((IntKind.i64.wrap (v13 * v3)) + v12))) 0))) - (List.getD v4.2 (Int.toNat (IntKind.i64.wrap ((IntKind.i64.wrap (v14 * v3)) + v11))) 0))) + (List.getD v4.2 (Int.toNat (IntKind.i64.wrap ((IntKind.i64.wrap (v13 * v3)) + v11))) 0)))
    bif ((decide ((0 : Int) ≤ (IntKind.i64.wrap ((IntKind.i64.wrap (v7 * a.1.1)) + v10)))) && (decide ((IntKind.i64.wrap ((IntKind.i64.wrap (v7 * a.1.1)) + v10)) < (List.length a.1.2.2 : Int)))) then
    let v16 : Int := (List.getD a.1.2.2 (Int.toNat (IntKind.i64.wrap ((IntKind.i64.wrap (v7 * a.1.1)) + v10))) 0)
    bif (decide ((IntKind.i64.wrap ((IntKind.i64.wrap ((IntKind.i64.wrap ((100 : Int) * (IntKind.i64.wrap v16))) * (IntKind.i64.wrap (v12 - v11)))) * (IntKind.i64.wrap (v14 - v13)))) < (IntKind.i64.wrap (v15 * (IntKind.i64.wrap ((100 : Int) - a.2.2.1)))))) then
      bindO (bitmap_stride_r fu ((a.1.1,()))) fun v17 =>
      bif ((decide ((0 : Int) ≤ (IntKind.i64.wrap ((IntKind.i64.wrap (v7 * v17.1)) + (IntKind.i64.wrap (Int.tdiv v10 (8 : Int))))))) && (decide ((IntKind.i64.wrap ((IntKind.i64.wrap (v7 * v17.1)) + (IntKind.i64.wrap (Int.tdiv v10 (8 : Int))))) < (List.length v8.2 : Int)))) then
      bif ((decide ((0 : Int) ≤ (Int.tmod v10 (8 : Int)))) && (decide ((Int.tmod v10 (8 : Int)) ≤ (8 : Int)))) then
      bif ((decide ((0 : Int) ≤ (IntKind.i64.wrap ((IntKind.i64.wrap (v7 * v17.1)) + (IntKind.i64.wrap (Int.tdiv v10 (8 : Int))))))) && (decide ((IntKind.i64.wrap ((IntKind.i64.wrap (v7 * v17.1)) + (IntKind.i64.wrap (Int.tdiv v10 (8 : Int))))) < (List.length v8.2 : Int)))) then
      j9 ((v8.1,(List.set v8.2 (Int.toNat (IntKind.i64.wrap ((IntKind.i64.wrap (v7 * v17.1)) + (IntKind.i64.wrap (Int.tdiv v10 (8 : Int)))))) (bits BinOp.or IntKind.u8 (List.getD v8.2 (Int.toNat (IntKind.i64.wrap ((IntKind.i64.wrap (v7 * v17.1)) + (IntKind.i64.wrap (Int.tdiv v10 (8 : Int)))))) 0) ((128 : Int) / 2 ^ (Int.toNat (Int.tmod v10 (8 : Int))))))))
      else none
      else none
      else none
    else
    j9 (v8)
    else none
    else none
    else none
    else none
    else none
  else
  j6 (((IntKind.i64.wrap (v6.1 + (1 : Int))),v8.2))
def camera_Adaptive_l4 (fu : Nat) (a : (Int × Int × List Int) × Int × Int × Unit) (v3 : Int) (v4 : Int × List Int) (j6 : (Int × List Int) → Option ((Int × Int × List Int) × Int × Unit)) (v6 : Int × List Int) : Option ((Int × Int × List Int) × Int × Unit) :=
  bif (decide (v6.1 < a.1.2.1)) then
    let v7 : Int := v6.1
    loopF (camera_Adaptive_l5 fu a v3 v4 v6 v7 j6) fu (((0 : Int),v6.2))
  else
  some (((a.1.1,(a.1.2.1,v6.2)),((0 : Int),())))
def camera_Adaptive_l2 (fu : Nat) (a : (Int × Int × List Int) × Int × Int × Unit) (v3 : Int) (j4 : (Int × List Int) → Option ((Int × Int × List Int) × Int × Unit)) (v4 : Int × List Int) : Option ((Int × Int × List Int) × Int × Unit) :=
  bif (decide (v4.1 < a.1.2.1)) then
    let v5 : Int := v4.1
    loopF (camera_Adaptive_l3 fu a v3 v4 v5 j4) fu (((0 : Int),v4.2))
  else
  bindO (bitmap_stride_r fu ((a.1.1,()))) fun v5 =>
  bif ((decide ((0 : Int) ≤ (IntKind.i64.wrap (v5.1 * a.1.2.1)))) && (decide (((1 : Int) * (IntKind.i64.wrap (v5.1 * a.1.2.1))) ≤ (281474976710656 : Int)))) then
  loopF (camera_Adaptive_l4 fu a v3 v4) fu (((0 : Int),(List.replicate (Int.toNat (IntKind.i64.wrap (v5.1 * a.1.2.1))) (0 : Int))))
  else none
def camera_Adaptive_j1 (fu : Nat) (a : (Int × Int × List Int) × Int × Int × Unit) (v2 : Bool) : Option ((Int × Int × List Int) × Int × Unit) :=
  bif v2 then
    some ((((0 : Int),((0 : Int),([] : List (Int)))),((3 : Int),())))
  else
  let v3 : Int := (IntKind.i64.wrap (a.1.1 + (1 : Int)))
  bif ((decide ((0 : Int) ≤ (IntKind.i64.wrap (v3 * (IntKind.i64.wrap (a.1.2.1 + (1 : Int))))))) && (decide (((8 : Int) * (IntKind.i64.wrap (v3 * (IntKind.i64.wrap (a.1.2.1 + (1 : Int)))))) ≤ (281474976710656 : Int)))) then
  loopF (camera_Adaptive_l2 fu a v3) fu (((0 : Int),(List.replicate (Int.toNat (IntKind.i64.wrap (v3 * (IntKind.i64.wrap (a.1.2.1 + (1 : Int)))))) (0 : Int))))
  else none
def camera_Adaptive_r (fu : Nat) (a : (Int × Int × List Int) × Int × Int × Unit) : Option ((Int × Int × List Int) × Int × Unit) :=
  bindO (camera_Check_r fu ((a.1,()))) fun v0 =>
  let v1 : Int := v0.1
  bif (decide (v1 ≠ (0 : Int))) then
    some ((((0 : Int),((0 : Int),([] : List (Int)))),(v1,())))
  else
  joinF (camera_Adaptive_j1 fu a) fun j2 =>
  bif (decide (a.2.1 < (1 : Int))) then
    j2 (true)
  else
  bif (decide ((16 : Int) < a.2.1)) then
    j2 (true)
  else
  bif (decide (a.2.2.1 < (0 : Int))) then
    j2 (true)
  else
  j2 ((decide ((100 : Int) < a.2.2.1)))
def camera_Adaptive_an : An := (.n none .z (.n none (.n none .z (.n none .z (.n none (.n none .z .z) .z))) (.n none (.n (some ⟨[2,3,1,6],[0,1],[],[.reg 40 .bool],0,[]⟩) .z (.n none (.n none .z .z) .z)) (.n none .z (.n none .z (.n none (.n none .z (.n none (.n (some ⟨[2,3,9,10,1,6,52],[1,0],[],[.reg 53 (.int .i64),.row 2 true (.int .i64) 3 0],0,[]⟩) (.n none .z (.n none .z (.n none (.n none (.n none .z (.n none .z (.n none (.n (some ⟨[53,11,57],[],[],[.reg 58 (.int .i64),.row 2 true (.int .i64) 3 0],0,[]⟩) (.n none .z (.n none .z (.n none (.n none (.n none .z (.dr [] [])) .z) .z))) .z) .z))) .z) .z))) .z) .z)) (.n none (.ops [(4,(.n none (.n none .z (.n none .z .z)) .z))]) (.n none (.n none .z (.n none (.n (some ⟨[6,13,1,10,9,3,2,118],[1,2,5,0],[],[.reg 119 (.int .i64),.row 4 true (.int .u8) 5 0],0,[]⟩) (.n none .z (.n none .z (.n none (.n none (.n none .z (.n none .z (.n none (.n (some ⟨[119,14,123],[],[],[.reg 124 (.int .i64),.row 4 true (.int .u8) 5 0],0,[]⟩) (.n none .z (.n none .z (.n (some ⟨[],[],[],[.reg 124 (.int .i64),.row 4 true (.int .u8) 5 0],0,[]⟩) (.n none (.n none .z (.n none (.dr [] []) (.n none (.dr [] []) (.n none .z (.n none (.ops [(2,(.n none (.dr [] []) .z))]) .z))))) .z) .z))) .z) .z))) .z) .z))) .z) .z)) (.n none .z .z)))))))))
noncomputable def camera_Adaptive_dc : List (Nat × Ctr) := [(63,camera_Check_ctr),(115,bitmap_stride_ctr)]
def camera_Adaptive_ctr : Ctr := ⟨(.pair (.agg (.pair (.int .i64) (.pair (.int .i64) (.list (.int .u8))))) (.pair (.int .i64) (.pair (.int .i64) .unit))),(.pair (.agg (.pair (.int .i64) (.pair (.int .i64) (.list (.int .u8))))) (.pair (.int .i64) .unit)),camera_Adaptive_r,65⟩
theorem camera_Adaptive_ok : CtrOk Try.prog 65 camera_Adaptive_ctr := ctr_ok (l := camera_Adaptive_dc) (f := 12) (an := camera_Adaptive_an) ⟨camera_Check_ok,⟨bitmap_stride_ok,trivial⟩⟩ fun fu x => by kernel_rfl
def law_CameraSurroundings_j5 (fu : Nat) (j9 : (Int × Int × Int) → Option (Bool × Unit)) (v10 : Int × Int × Int) : Option (Bool × Unit) :=
  j9 ((v10.2.1,(v10.2.2,(IntKind.i64.wrap (v10.1 + (1 : Int))))))
def law_CameraSurroundings_j6 (fu : Nat) (v9 : Int × Int × Int) (v11 : Int) (j10 : (Int × Int × Int) → Option (Bool × Unit)) (v13 : Bool × Int × Int) : Option (Bool × Unit) :=
  bif v13.1 then
    let v14 : Int := (IntKind.i64.wrap (v13.2.1 + (IntKind.i64.wrap v11)))
    let v15 : Int := (IntKind.i64.wrap (v13.2.2 + (1 : Int)))
    j10 ((v9.2.2,(v14,v15)))
  else
  j10 ((v9.2.2,v13.2))
def law_CameraSurroundings_l4 (fu : Nat) (a : (Int × Int × List Int) × Int × Int × Unit) (v6 : Int × List Bool) (v7 : Int) (v8 : Int) (j6 : (Int × List Bool) → Option (Bool × Unit)) (j9 : (Int × Int × Int) → Option (Bool × Unit)) (v9 : Int × Int × Int) : Option (Bool × Unit) :=
  bif (decide (v9.2.2 < (List.length a.1.2.2 : Int))) then
    joinF (law_CameraSurroundings_j5 fu j9) fun j10 =>
    bif ((decide ((0 : Int) ≤ v9.2.2)) && (decide (v9.2.2 < (List.length a.1.2.2 : Int)))) then
    let v11 : Int := (List.getD a.1.2.2 (Int.toNat v9.2.2) 0)
    let v12 : Int := v9.2.2
    joinF (law_CameraSurroundings_j6 fu v9 v11 j10) fun j13 =>
    bif (decide (a.1.1 ≠ (0 : Int))) then
    bif (decide (a.1.1 ≠ (0 : Int))) then
    bindO (R_Within_r fu (((IntKind.i64.wrap ((Int.tmod v12 a.1.1) - (Int.tmod v8 a.1.1))),((IntKind.i64.wrap (-a.2.1)),(a.2.1,()))))) fun v14 =>
    bif v14.1 then
      bif (decide (a.1.1 ≠ (0 : Int))) then
      bif (decide (a.1.1 ≠ (0 : Int))) then
      bindO (R_Within_r fu (((IntKind.i64.wrap ((IntKind.i64.wrap (Int.tdiv v12 a.1.1)) - (IntKind.i64.wrap (Int.tdiv v8 a.1.1)))),((IntKind.i64.wrap (-a.2.1)),(a.2.1,()))))) fun v15 =>
      j13 ((v15.1,(v9.1,v9.2.1)))
      else none
      else none
    else
    j13 ((false,(v9.1,v9.2.1)))
    else none
    else none
    else none
  else
  bif ((decide ((0 : Int) ≤ v8)) && (decide (v8 < (List.length v6.2 : Int)))) then
  j6 (((IntKind.i64.wrap (v6.1 + (1 : Int))),(List.set v6.2 (Int.toNat v8) (decide ((IntKind.i64.wrap ((IntKind.i64.wrap ((100 : Int) * (IntKind.i64.wrap v7))) * v9.2.1)) < (IntKind.i64.wrap (v9.1 * (IntKind.i64.wrap ((100 : Int) - a.2.2.1)))))))))
  else none
def law_CameraSurroundings_l3 (fu : Nat) (a : (Int × Int × List Int) × Int × Int × Unit) (v1 : (Int × Int × List Int) × Int × Unit) (v2 : Int) (j6 : (Int × List Bool) → Option (Bool × Unit)) (v6 : Int × List Bool) : Option (Bool × Unit) :=
  bif (decide (v6.1 < (List.length a.1.2.2 : Int))) then
    bif ((decide ((0 : Int) ≤ v6.1)) && (decide (v6.1 < (List.length a.1.2.2 : Int)))) then
    let v7 : Int := (List.getD a.1.2.2 (Int.toNat v6.1) 0)
    let v8 : Int := v6.1
    loopF (law_CameraSurroundings_l4 fu a v6 v7 v8 j6) fu (((0 : Int),((0 : Int),(0 : Int))))
    else none
  else
  bif (decide (v2 = (0 : Int))) then
    bindO (R_Drawn_r fu ((a.1.1,(a.1.2.1,(v6.2,()))))) fun v7 =>
    bindO (R_SameBits_r fu ((v1.1,(v7.1,())))) fun v8 =>
    let v9 : Bool := v8.1
    some ((v9,()))
  else
  some ((false,()))
def law_CameraSurroundings_j2 (fu : Nat) (a : (Int × Int × List Int) × Int × Int × Unit) (v1 : (Int × Int × List Int) × Int × Unit) (v2 : Int) (v5 : Int) : Option (Bool × Unit) :=
  bif (decide (v5 ≠ (0 : Int))) then
    bindO (law_refused_r fu ((v1.1,(v2,(v5,()))))) fun v6 =>
    let v7 : Bool := v6.1
    some ((v7,()))
  else
  bif (decide ((300 : Int) < (List.length a.1.2.2 : Int))) then
    some ((true,()))
  else
  bif ((decide ((0 : Int) ≤ (List.length a.1.2.2 : Int))) && (decide (((1 : Int) * (List.length a.1.2.2 : Int)) ≤ (281474976710656 : Int)))) then
  loopF (law_CameraSurroundings_l3 fu a v1 v2) fu (((0 : Int),(List.replicate (Int.toNat (List.length a.1.2.2 : Int)) false)))
  else none
def law_CameraSurroundings_j7 (fu : Nat) (j5 : (Int) → Option (Bool × Unit)) (v6 : Bool × Int) : Option (Bool × Unit) :=
  bif v6.1 then
    j5 ((3 : Int))
  else
  j5 (v6.2)
def law_CameraSurroundings_j1 (fu : Nat) (a : (Int × Int × List Int) × Int × Int × Unit) (v1 : (Int × Int × List Int) × Int × Unit) (v2 : Int) (v3 : Int) : Option (Bool × Unit) :=
  bindO (camera_Check_r fu ((a.1,()))) fun v4 =>
  bif (decide (v4.1 ≠ v3)) then
    some ((false,()))
  else
  joinF (law_CameraSurroundings_j2 fu a v1 v2) fun j5 =>
  joinF (law_CameraSurroundings_j7 fu j5) fun j6 =>
  bif (decide (v3 = (0 : Int))) then
    bindO (R_Within_r fu ((a.2.1,((1 : Int),((16 : Int),()))))) fun v7 =>
    bif (!v7.1) then
      j6 ((true,v3))
    else
    bindO (R_Within_r fu ((a.2.2.1,((0 : Int),((100 : Int),()))))) fun v8 =>
    j6 (((!v8.1),v3))
  else
  j6 ((false,v3))
def law_CameraSurroundings_j8 (fu : Nat) (a : (Int × Int × List Int) × Int × Int × Unit) (j3 : (Int) → Option (Bool × Unit)) (v4 : Bool × Int) : Option (Bool × Unit) :=
  bif v4.1 then
    j3 ((3 : Int))
  else
  let v5 : Bool := (decide ((List.length a.1.2.2 : Int) ≠ (IntKind.i64.wrap (a.1.1 * a.1.2.1))))
  bif v5 then
    j3 ((4 : Int))
  else
  j3 (v4.2)
def law_CameraSurroundings_r (fu : Nat) (a : (Int × Int × List Int) × Int × Int × Unit) : Option (Bool × Unit) :=
  bindO (law_cameraWorks_r fu (())) fun v0 =>
  bif (!v0.1) then
    some ((false,()))
  else
  bindO (camera_Adaptive_r fu ((a.1,(a.2.1,(a.2.2.1,()))))) fun v1 =>
  let v2 : Int := v1.2.1
  joinF (law_CameraSurroundings_j1 fu a v1 v2) fun j3 =>
  joinF (law_CameraSurroundings_j8 fu a j3) fun j4 =>
  bindO (R_Within_r fu ((a.1.1,((1 : Int),((1024 : Int),()))))) fun v5 =>
  let v6 : Bool := (!v5.1)
  bif v6 then
    j4 ((v6,(0 : Int)))
  else
  bindO (R_Within_r fu ((a.1.2.1,((1 : Int),((1024 : Int),()))))) fun v7 =>
  let v8 : Bool := (!v7.1)
  j4 ((v8,(0 : Int)))
def law_CameraSurroundings_an : An := (.n none .z (.n none (.n none .z (.n none (.n none .z .z) .z)) (.n none .z (.n none .z (.n (some ⟨[3,7,8,2,1],[0,1],[],[.reg 9 (.int .i64)],0,[]⟩) (.n none (.n (some ⟨[6],[],[],[.reg 26 .bool,.reg 9 (.int .i64)],0,[]⟩) (.n none .z (.n none .z .z)) (.n none .z (.n none .z (.n none .z .z)))) .z) (.n none (.n none .z (.n none (.n none .z .z) .z)) (.n (some ⟨[],[],[],[.reg 9 (.int .i64)],0,[]⟩) (.n (some ⟨[],[],[],[.reg 60 .bool,.reg 9 (.int .i64)],0,[]⟩) .z (.n none .z .z)) (.n none (.n none .z (.n none (.n none .z .z) .z)) (.n none (.n none .z (.n none (.n none .z .z) .z)) (.n none .z (.n none (.n none .z (.n none (.n (some ⟨[10,76,77],[],[],[.reg 78 (.int .i64),.row 2 true .bool 4 0],0,[]⟩) (.n none .z (.n none .z (.n none (.n none (.n none .z (.n none .z (.n none (.n none .z (.n none (.n (some ⟨[78,12,11,84,85],[2],[],[.reg 13 (.int .i64),.reg 14 (.int .i64),.reg 86 (.int .i64)],0,[]⟩) (.n none .z (.n none .z (.n (some ⟨[],[],[],[.reg 86 (.int .i64),.reg 13 (.int .i64),.reg 14 (.int .i64)],0,[]⟩) (.n none (.n none .z (.n (some ⟨[16,86],[],[],[.reg 118 .bool,.reg 13 (.int .i64),.reg 14 (.int .i64)],0,[]⟩) (.dr [] []) (.n none (.n none .z .z) .z))) .z) .z))) .z) .z)) .z))) .z) .z))) .z) .z)) (.n none (.dr [] []) .z))))))))))))
noncomputable def law_CameraSurroundings_dc : List (Nat × Ctr) := [(21,R_Within_ctr),(40,law_refused_ctr),(41,R_Drawn_ctr),(43,R_SameBits_ctr),(58,law_cameraWorks_ctr),(63,camera_Check_ctr),(65,camera_Adaptive_ctr)]
def law_CameraSurroundings_ctr : Ctr := ⟨(.pair (.agg (.pair (.int .i64) (.pair (.int .i64) (.list (.int .u8))))) (.pair (.int .i64) (.pair (.int .i64) .unit))),(.pair .bool .unit),law_CameraSurroundings_r,12⟩
theorem law_CameraSurroundings_ok : CtrOk Try.prog 12 law_CameraSurroundings_ctr := ctr_ok (l := law_CameraSurroundings_dc) (f := 12) (an := law_CameraSurroundings_an) ⟨R_Within_ok,⟨law_refused_ok,⟨R_Drawn_ok,⟨R_SameBits_ok,⟨law_cameraWorks_ok,⟨camera_Check_ok,⟨camera_Adaptive_ok,trivial⟩⟩⟩⟩⟩⟩⟩ fun fu x => by kernel_rfl
end Go.Proofs.Ytelpkjellakigaa
/- Pictures of pixels. No program in sight. -/
set_option maxRecDepth 100000
namespace Go.Proofs.Ytelpkjellakigaa
open Go Go.RowKit

def byteB (b0 b1 b2 b3 b4 b5 b6 b7 : Bool) : Int := (bif b0 then 128 else 0) + (bif b1 then 64 else 0) + (bif b2 then 32 else 0) + (bif b3 then 16 else 0) + (bif b4 then 8 else 0) + (bif b5 then 4 else 0) + (bif b6 then 2 else 0) + (bif b7 then 1 else 0)
def byteOf (p : Nat → Bool) : Int := byteB (p 0) (p 1) (p 2) (p 3) (p 4) (p 5) (p 6) (p 7)
theorem byteOf_congr {p q : Nat → Bool} (h : ∀ k,k < 8 → p k = q k) : byteOf p = byteOf q := by
  unfold byteOf
  rw [h 0 (by omega),h 1 (by omega),h 2 (by omega),h 3 (by omega),h 4 (by omega),h 5 (by omega),h 6 (by omega),h 7 (by omega)]
theorem byteOf_bd (p : Nat → Bool) : 0 ≤ byteOf p ∧ byteOf p ≤ 255 := by
  unfold byteOf
  generalize p 0 = a0;generalize p 1 = a1;generalize p 2 = a2;generalize p 3 = a3;generalize p 4 = a4;generalize p 5 = a5;generalize p 6 = a6;generalize p 7 = a7
  revert a0 a1 a2 a3 a4 a5 a6 a7
  decide +kernel
theorem bool_fun {p : Nat → Bool} {a0 a1 a2 a3 a4 a5 a6 a7 : Bool} (h0 : p 0 = a0) (h1 : p 1 = a1) (h2 : p 2 = a2) (h3 : p 3 = a3) (h4 : p 4 = a4) (h5 : p 5 = a5) (h6 : p 6 = a6) (h7 : p 7 = a7) : ∀ k,k < 8 → p k = [a0,a1,a2,a3,a4,a5,a6,a7].getD k false
  | 0,_ => h0 | 1,_ => h1 | 2,_ => h2 | 3,_ => h3 | 4,_ => h4 | 5,_ => h5 | 6,_ => h6 | 7,_ => h7
  | k + 8,h => by omega
theorem byteOf_bit (p : Nat → Bool) {k : Nat} (hk : k < 8) : bitAt (byteOf p) k = p k := by
  rw [bool_fun (p := p) rfl rfl rfl rfl rfl rfl rfl rfl k hk]
  unfold byteOf
  generalize p 0 = a0;generalize p 1 = a1;generalize p 2 = a2;generalize p 3 = a3;generalize p 4 = a4;generalize p 5 = a5;generalize p 6 = a6;generalize p 7 = a7
  exact (show ∀ (k : Fin 8) (a0 a1 a2 a3 a4 a5 a6 a7 : Bool),bitAt (byteB a0 a1 a2 a3 a4 a5 a6 a7) k.val = [a0,a1,a2,a3,a4,a5,a6,a7].getD k.val false by decide +kernel) ⟨k,hk⟩ a0 a1 a2 a3 a4 a5 a6 a7
theorem or_byte {v : Int} (h0 : 0 ≤ v) (h1 : v ≤ 255) {k : Nat} (hk : k < 8) : bits .or .u8 v (128 / 2 ^ k) = byteOf (fun j => bitAt v j || j == k) :=
  fin_byte (p := fun v => bits .or .u8 v (128 / 2 ^ k) = byteOf (fun j => bitAt v j || j == k)) (fun v => (show ∀ (k : Fin 8) (v : Fin 256),bits .or .u8 (v.val : Int) (128 / 2 ^ k.val) = byteOf (fun j => bitAt (v.val : Int) j || j == k.val) by decide +kernel) ⟨k,hk⟩ v) h0 h1
theorem byteOf_or (p : Nat → Bool) {k : Nat} (hk : k < 8) : bits .or .u8 (byteOf p) (128 / 2 ^ k) = byteOf (fun j => p j || j == k) := by
  rw [or_byte (byteOf_bd p).1 (byteOf_bd p).2 hk]
  exact byteOf_congr fun j hj => by rw [byteOf_bit p hj]
def cbyte (w : Int) (P : Int → Int → Bool) (i : Int) : Int := byteOf fun k => decide (8 * (i % strd w) + k < w) && P (8 * (i % strd w) + k) (i / strd w)
def canon (w h : Int) (P : Int → Int → Bool) : List Int := (List.range (strd w * h).toNat).map fun i : Nat => cbyte w P (i : Int)
theorem canon_length (w h : Int) (P : Int → Int → Bool) : (canon w h P).length = (strd w * h).toNat := by rw [canon,List.length_map,List.length_range]
theorem canon_len {w h : Int} (hw : 0 ≤ w) (hh : 0 ≤ h) (P : Int → Int → Bool) : ((canon w h P).length : Int) = strd w * h := by
  rw [canon_length,Int.toNat_of_nonneg (Int.mul_nonneg (by unfold strd;omega) hh)]
theorem canon_get {w h : Int} {P : Int → Int → Bool} {i : Nat} (hi : i < (canon w h P).length) : (canon w h P)[i] = cbyte w P i := by
  simp only [canon,List.getElem_map,List.getElem_range]
theorem canon_getD {w h : Int} {P : Int → Int → Bool} {i : Nat} (hi : i < (strd w * h).toNat) : (canon w h P).getD i 0 = cbyte w P i := by
  rw [← canon_length w h P] at hi
  rw [List.getD_eq_getElem?_getD,List.getElem?_eq_getElem hi,Option.getD_some,canon_get]
theorem canon_congr {w h : Int} {P Q : Int → Int → Bool} (hw : 0 < w) (hp : ∀ x y,0 ≤ x → x < w → 0 ≤ y → y < h → P x y = Q x y) : canon w h P = canon w h Q := by
  unfold canon
  refine List.map_congr_left fun i hi => byteOf_congr fun k _ => ?_
  have hi := List.mem_range.1 hi
  have hs : 0 < strd w := by unfold strd;omega
  have hi' : (i : Int) < strd w * h := by omega
  have e1 : 0 ≤ (i : Int) % strd w := Int.emod_nonneg _ (by omega)
  have e2 : (i : Int) / strd w < h := Int.ediv_lt_of_lt_mul hs (by rw [Int.mul_comm];exact hi')
  have e3 : 0 ≤ (i : Int) / strd w := Int.ediv_nonneg (by omega) (by omega)
  by_cases g : 8 * ((i : Int) % strd w) + k < w
  · rw [hp _ _ (by omega) g e3 e2]
  · rw [decide_eq_false g];rfl
theorem div_of {s a b : Int} (h0 : 0 ≤ b) (h1 : b < s) : (a * s + b) / s = a ∧ (a * s + b) % s = b := by
  have hs : s ≠ 0 := by omega
  constructor
  · rw [Int.add_comm,Int.add_mul_ediv_right _ _ hs,Int.ediv_eq_zero_of_lt h0 h1,Int.zero_add]
  · rw [Int.add_comm,Int.add_mul_emod_self_right,Int.emod_eq_of_lt h0 h1]
theorem mul_div_mod (i s : Int) : i / s * s + i % s = i := by rw [Int.mul_comm];exact Int.mul_ediv_add_emod i s
section
variable {w h x y : Int} {P : Int → Int → Bool}
theorem at_lt (hx0 : 0 ≤ x) (hx1 : x < w) (hy0 : 0 ≤ y) (hy1 : y < h) : (y * strd w + x / 8).toNat < (strd w * h).toNat ∧ ((y * strd w + x / 8).toNat : Int) = y * strd w + x / 8 := by
  have h1 : 0 ≤ strd w * h := Int.mul_nonneg (by unfold strd;omega) (by omega)
  obtain ⟨g0,g1,g2⟩ := at_ok (w := w) (h := h) (x := x) (y := y) (l := (strd w * h).toNat) (by omega) hx0 hx1 hy0 hy1 (by omega)
  omega
theorem cbyte_at (hx0 : 0 ≤ x) (hx1 : x < w) (hy0 : 0 ≤ y) : cbyte w P (y * strd w + x / 8) = byteOf fun k => decide (8 * (x / 8) + k < w) && P (8 * (x / 8) + k) y := by
  have h1 : x / 8 < strd w := by unfold strd;omega
  have := hy0
  unfold cbyte
  rw [(div_of (by omega) h1).1,(div_of (by omega) h1).2]
theorem canon_upd {Q : Int → Int → Bool} {v : Int} (hx0 : 0 ≤ x) (hx1 : x < w) (hy0 : 0 ≤ y) (hy1 : y < h) (hv : v = byteOf fun k => decide (8 * (x / 8) + k < w) && Q (8 * (x / 8) + k) y)
    (hq : ∀ a b,0 ≤ a → ¬ (a / 8 = x / 8 ∧ b = y) → Q a b = P a b) : (canon w h P).set (y * strd w + x / 8).toNat v = canon w h Q := by
  obtain ⟨hlt,hcast⟩ := at_lt hx0 hx1 hy0 hy1
  refine List.ext_getElem (by rw [List.length_set,canon_length,canon_length]) fun i h1 h2 => ?_
  rw [List.getElem_set]
  split
  · rename_i e
    subst e
    rw [canon_get,hcast,cbyte_at hx0 hx1 hy0]
    exact hv
  · rename_i e
    rw [canon_get,canon_get]
    refine byteOf_congr fun k hk => ?_
    have hs : 0 < strd w := by unfold strd;omega
    have e1 : 0 ≤ (i : Int) % strd w := Int.emod_nonneg _ (by omega)
    congr 1
    refine (hq _ _ (by omega) ?_).symm
    rintro ⟨g1,g2⟩
    have g3 : (i : Int) % strd w = x / 8 := by omega
    have := mul_div_mod (i : Int) (strd w)
    rw [g2,g3] at this
    omega
theorem canon_set (hx0 : 0 ≤ x) (hx1 : x < w) (hy0 : 0 ≤ y) (hy1 : y < h) :
    (canon w h P).set (y * strd w + x / 8).toNat (bits .or .u8 ((canon w h P).getD (y * strd w + x / 8).toNat 0) (128 / 2 ^ (x % 8).toNat)) = canon w h (fun a b => P a b || (decide (a = x) && decide (b = y))) := by
  obtain ⟨hlt,hcast⟩ := at_lt hx0 hx1 hy0 hy1
  refine canon_upd hx0 hx1 hy0 hy1 ?_ (fun a b ha hn => ?_)
  · rw [canon_getD hlt,hcast,cbyte_at hx0 hx1 hy0,byteOf_or _ (by omega)]
    refine byteOf_congr fun k hk => ?_
    rw [decide_eq_true (rfl : y = y),Bool.and_true]
    by_cases e : k = (x % 8).toNat
    · subst e
      have e1 : 8 * (x / 8) + ((x % 8).toNat : Int) = x := by omega
      rw [e1,decide_eq_true hx1,decide_eq_true (rfl : x = x)]
      simp
    · rw [decide_eq_false (show ¬ 8 * (x / 8) + (k : Int) = x by omega)]
      simp [e]
  · have : ¬ (a = x ∧ b = y) := fun g => hn (by rw [g.1];exact ⟨rfl,g.2⟩)
    by_cases e : a = x
    · rw [decide_eq_false (show ¬ b = y from fun g => this ⟨e,g⟩)];simp
    · rw [decide_eq_false e];simp
end
theorem strd_bd {w h : Int} (hw0 : 0 ≤ w) (hw1 : w ≤ 1024) (hh0 : 0 ≤ h) (hh1 : h ≤ 1024) : 0 ≤ strd w ∧ strd w ≤ 128 ∧ 0 ≤ strd w * h ∧ strd w * h ≤ 131072 := by
  have a1 : strd w ≤ 128 := by unfold strd;omega
  have a2 : 0 ≤ strd w := by unfold strd;omega
  have := Int.mul_le_mul a1 hh1 hh0 (by omega : (0 : Int) ≤ 128)
  have := Int.mul_nonneg a2 hh0
  omega
theorem idx_bd {w h x y : Int} (hx0 : 0 ≤ x) (hx1 : x < w) (hw1 : w ≤ 1024) (hy0 : 0 ≤ y) (hy1 : y < h) (hh1 : h ≤ 1024) : 0 ≤ y * strd w ∧ y * strd w + x / 8 < strd w * h ∧ strd w * h ≤ 131072 := by
  obtain ⟨b1,b2,b3,b4⟩ := strd_bd (w := w) (h := h) (by omega) hw1 (by omega) hh1
  obtain ⟨g0,g1,g2⟩ := at_ok (w := w) (h := h) (x := x) (y := y) (l := (strd w * h).toNat) (by omega) hx0 hx1 hy0 hy1 (by omega)
  omega
theorem canon_zero (w h : Int) {P : Int → Int → Bool} (hp : ∀ x y,P x y = false) : canon w h P = List.replicate (strd w * h).toNat 0 := by
  refine List.ext_getElem (by rw [canon_length,List.length_replicate]) fun i h1 h2 => ?_
  rw [canon_get,List.getElem_replicate]
  show byteOf _ = 0
  rw [byteOf_congr (q := fun _ => false) (fun k _ => by rw [hp,Bool.and_false])]
  rfl
def onL (n : Nat) (G : Int → Bool) : List Bool := (List.range n).map fun i : Nat => G (i : Int)
theorem onL_length (n : Nat) (G : Int → Bool) : (onL n G).length = n := by rw [onL,List.length_map,List.length_range]
theorem onL_getD {n : Nat} {G : Int → Bool} {i : Int} (h0 : 0 ≤ i) (h1 : i < n) : (onL n G).getD i.toNat false = G i := by
  have hi : i.toNat < n := by omega
  have : (onL n G)[i.toNat]? = some (G i) := by
    unfold onL
    rw [List.getElem?_map,List.getElem?_range hi,Option.map_some,Int.toNat_of_nonneg h0]
  rw [List.getD_eq_getElem?_getD,this,Option.getD_some]
end Go.Proofs.Ytelpkjellakigaa
/- Pictures: what bitmap.Mark,R.Drawn,R.SameBits compute. -/
set_option maxRecDepth 100000
namespace Go.Proofs.Ytelpkjellakigaa
open Go Go.RowKit

section
variable {β : Type}
def markF (fu : Nat) (w y x : Int) (ds : List Int) (k : List Int → Option β) : Option β :=
  bindO (bitmap_stride_r fu ((w,()))) fun v8 =>
  bif ((decide ((0 : Int) ≤ (IntKind.i64.wrap ((IntKind.i64.wrap (y * v8.1)) + (IntKind.i64.wrap (Int.tdiv x (8 : Int))))))) && (decide ((IntKind.i64.wrap ((IntKind.i64.wrap (y * v8.1)) + (IntKind.i64.wrap (Int.tdiv x (8 : Int))))) < (List.length ds : Int)))) then
  bif ((decide ((0 : Int) ≤ (Int.tmod x (8 : Int)))) && (decide ((Int.tmod x (8 : Int)) ≤ (8 : Int)))) then
  bif ((decide ((0 : Int) ≤ (IntKind.i64.wrap ((IntKind.i64.wrap (y * v8.1)) + (IntKind.i64.wrap (Int.tdiv x (8 : Int))))))) && (decide ((IntKind.i64.wrap ((IntKind.i64.wrap (y * v8.1)) + (IntKind.i64.wrap (Int.tdiv x (8 : Int))))) < (List.length ds : Int)))) then
  k ((List.set ds (Int.toNat (IntKind.i64.wrap ((IntKind.i64.wrap (y * v8.1)) + (IntKind.i64.wrap (Int.tdiv x (8 : Int)))))) (bits BinOp.or IntKind.u8 (List.getD ds (Int.toNat (IntKind.i64.wrap ((IntKind.i64.wrap (y * v8.1)) + (IntKind.i64.wrap (Int.tdiv x (8 : Int)))))) 0) ((128 : Int) / 2 ^ (Int.toNat (Int.tmod x (8 : Int)))))))
  else none
  else none
  else none
theorem markF_eq (fu : Nat) {w h x y : Int} {P : Int → Int → Bool} {k : List Int → Option β} (hx0 : 0 ≤ x) (hx1 : x < w) (hw1 : w ≤ 1024) (hy0 : 0 ≤ y) (hy1 : y < h) (hh1 : h ≤ 1024) :
    markF fu w y x (canon w h P) k = k (canon w h (fun a b => P a b || (decide (a = x) && decide (b = y)))) := by
  obtain ⟨g0,g1,g2⟩ := idx_bd hx0 hx1 hw1 hy0 hy1 hh1
  have hl := canon_len (w := w) (h := h) (by omega) (by omega) P
  unfold markF
  rw [stride_r fu (by omega) (by omega),bindO_some]
  simp only
  rw [Int.tdiv_eq_ediv_of_nonneg hx0,Int.tmod_eq_emod_of_nonneg hx0,wr64 (x := x / 8) (by omega) (by omega),wr64 (x := y * strd w) (by omega) (by omega),wr64 (x := y * strd w + x / 8) (by omega) (by omega)]
  rw [bif_and (by omega) (by omega),bif_and (by omega) (by omega),bif_and (by omega) (by omega),canon_set hx0 hx1 hy0 hy1]
variable {fu : Nat} (hf : 18446744073709551616 ≤ fu) {w h : Int}
include hf
theorem drawn_r {on : List Bool} (hw0 : 0 < w) (hw1 : w ≤ 1024) (hh0 : 0 < h) (hh1 : h ≤ 1024) (hl : (on.length : Int) = w * h) :
    R_Drawn_r fu (w,(h,(on,()))) = some ((w,(h,canon w h (fun x y => on.getD (y * w + x).toNat false))),()) := by
  obtain ⟨b1,b2,b3,b4⟩ := strd_bd (w := w) (h := h) (by omega) hw1 (by omega) hh1
  have hwh : w * h ≤ 1048576 := by
    have := Int.mul_le_mul hw1 hh1 (by omega : 0 ≤ h) (by omega : (0 : Int) ≤ 1024)
    omega
  unfold R_Drawn_r
  simp only
  have e1 : IntKind.i64.wrap (Int.tdiv (IntKind.i64.wrap (w + 7)) 8) = strd w := by
    rw [wr64 (x := w + 7) (by omega) (by omega),Int.tdiv_eq_ediv_of_nonneg (by omega),wr64 (x := (w + 7) / 8) (by omega) (by omega)];rfl
  rw [e1,wr64 (x := strd w * h) (by omega) (by omega),bif_and (by omega) (by omega),← canon_zero w h (P := fun _ _ => false) (fun _ _ => rfl)]
  refine loopF_spec (fun v => (w * h - v.1).toNat) (fun v => 0 ≤ v.1 ∧ v.1 ≤ w * h ∧ v.2 = canon w h (fun x y => on.getD (y * w + x).toNat false && decide (y * w + x < v.1))) (fun _ => some ((w,(h,canon w h (fun x y => on.getD (y * w + x).toNat false))),())) ?_ fu (0,_) ⟨by omega,by simp only;omega,?_⟩ (by simp only;omega)
  · rintro j ⟨i,ds⟩ ⟨h0,h1,hd⟩ ih
    simp only at h0 h1 hd
    unfold R_Drawn_l1 R_Drawn_j2
    simp only [joinF_eq]
    by_cases hi : i < w * h
    · rw [bif_pos (by omega),bif_and (by omega) (by omega),wr64 (x := i + 1) (by omega) (by omega)]
      have hx0 : 0 ≤ i % w := Int.emod_nonneg _ (by omega)
      have hx1 : i % w < w := Int.emod_lt_of_pos _ hw0
      have hy0 : 0 ≤ i / w := Int.ediv_nonneg h0 (by omega)
      have hy1 : i / w < h := Int.ediv_lt_of_lt_mul hw0 (by rw [Int.mul_comm];exact hi)
      have hmd := mul_div_mod i w
      cases hF : on.getD i.toNat false with
      | true =>
        simp only [cond_true]
        obtain ⟨g0,g1,g2⟩ := idx_bd hx0 hx1 hw1 hy0 hy1 hh1
        have hcl := canon_len (w := w) (h := h) (by omega) (by omega) (fun x y => on.getD (y * w + x).toNat false && decide (y * w + x < i))
        have hwn : w ≠ 0 := by omega
        rw [Int.tdiv_eq_ediv_of_nonneg h0,Int.tmod_eq_emod_of_nonneg h0,Int.tdiv_eq_ediv_of_nonneg hx0,Int.tmod_eq_emod_of_nonneg hx0,wr64 (x := i / w) (by omega) (by omega),wr64 (x := i / w * strd w) (by omega) (by omega),wr64 (x := i % w / 8) (by omega) (by omega),wr64 (x := i / w * strd w + i % w / 8) (by omega) (by omega)]
        rw [hd,bif_pos hwn,bif_pos hwn,bif_and (by omega) (by omega),bif_pos hwn,bif_and (by omega) (by omega),bif_and (by omega) (by omega),canon_set hx0 hx1 hy0 hy1]
        refine ih (i + 1,_) ⟨by simp only;omega,by simp only;omega,?_⟩ (by simp only;omega)
        simp only
        refine canon_congr hw0 fun a b ha ha1 _ _ => ?_
        by_cases e : a = i % w ∧ b = i / w
        · obtain ⟨rfl,rfl⟩ := e
          rw [hmd,hF];simp;omega
        · have e2 : (decide (a = i % w) && decide (b = i / w)) = false := by
            rw [← Bool.not_eq_true,Bool.and_eq_true];simpa using e
          have e3 : ¬ b * w + a = i := by
            intro q
            have := div_of (a := b) ha ha1
            rw [q] at this
            exact e ⟨this.2.symm,this.1.symm⟩
          have g2 : decide (b * w + a < i) = decide (b * w + a < i + 1) := by
            by_cases q : b * w + a < i
            · rw [decide_eq_true q,decide_eq_true (by omega)]
            · rw [decide_eq_false q,decide_eq_false (by omega)]
          rw [e2,Bool.or_false,g2]
      | false =>
        simp only [cond_false]
        refine ih (i + 1,ds) ⟨by simp only;omega,by simp only;omega,?_⟩ (by simp only;omega)
        simp only
        rw [hd]
        refine canon_congr hw0 fun a b ha ha1 _ _ => ?_
        by_cases q : b * w + a = i
        · rw [q,hF];rfl
        · have g2 : decide (b * w + a < i) = decide (b * w + a < i + 1) := by
            by_cases q : b * w + a < i
            · rw [decide_eq_true q,decide_eq_true (by omega)]
            · rw [decide_eq_false q,decide_eq_false (by omega)]
          rw [g2]
    · rw [bif_neg (by omega),hd]
      congr 4
      refine canon_congr hw0 fun a b ha ha1 hb hb1 => ?_
      have : b * w ≤ (h - 1) * w := Int.mul_le_mul_of_nonneg_right (by omega) (by omega)
      have e2 : (h - 1) * w = w * h - w := by rw [Int.sub_mul,Int.one_mul,Int.mul_comm]
      rw [decide_eq_true (show b * w + a < i by omega),Bool.and_true]
  · refine canon_congr hw0 fun a b ha _ hb _ => ?_
    have := Int.mul_nonneg hb (by omega : 0 ≤ w)
    rw [decide_eq_false (show ¬ b * w + a < 0 by omega),Bool.and_false]
end
theorem same_r (fu : Nat) (w h : Int) (ds : List Int) : R_SameBits_r fu ((w,(h,ds)),((w,(h,ds)),())) = some (true,()) := by
  unfold R_SameBits_r R_SameBytes_r
  simp [bindO_some]
theorem refused_r (fu : Nat) (e : Int) : law_refused_r fu ((0,(0,[])),(e,(e,()))) = some (true,()) := by
  unfold law_refused_r R_NoBits_r
  simp [bindO_some]
theorem drawn_on {fu : Nat} (hf : 18446744073709551616 ≤ fu) {w h : Int} {F : Int → Int → Bool} (hw0 : 0 < w) (hw1 : w ≤ 1024) (hh0 : 0 < h) (hh1 : h ≤ 1024) :
    R_Drawn_r fu (w,(h,(onL (w * h).toNat (fun i => F (i % w) (i / w)),()))) = some ((w,(h,canon w h F)),()) := by
  have hwh : 0 < w * h := Int.mul_pos hw0 hh0
  rw [drawn_r hf hw0 hw1 hh0 hh1 (by rw [onL_length];omega)]
  congr 4
  refine canon_congr hw0 fun x y hx hx1 hy hy1 => ?_
  have h1 := Int.mul_nonneg hy (by omega : 0 ≤ w)
  have h2 : y * w ≤ (h - 1) * w := Int.mul_le_mul_of_nonneg_right (by omega) (by omega)
  have e2 : (h - 1) * w = w * h - w := by rw [Int.sub_mul,Int.one_mul,Int.mul_comm]
  rw [onL_getD (by omega) (by omega),(div_of hx hx1).1,(div_of hx hx1).2]
end Go.Proofs.Ytelpkjellakigaa
/- camera.Adaptive: what it draws. -/
namespace Go.Proofs.Ytelpkjellakigaa
open Go Go.RowKit
set_option linter.unusedSimpArgs false
set_option linter.unusedSectionVars false
set_option linter.unusedVariables false
namespace Cm
theorem stLoop {X β : Type} {f : (X → Option β) → X → Option β} {n fu : Nat} (hn : n < fu) {st : Nat → X} {x0 : X} {fin : Option β} (h0 : st 0 = x0)
    (step : ∀ j (i : Nat),i < n → f j (st i) = j (st (i + 1))) (last : ∀ j,f j (st n) = fin) : loopF f fu x0 = fin := by
  have key := errGen (f := f) (n := n) (st := st) (E := fun _ => 0) (out := fun _ => none) (fin := fin) (fun j i hi _ => by rw [if_pos rfl];exact step j i hi) (fun _ => last) fu 0 (by omega) (by omega) (by omega)
  rw [if_pos (firstE_all _ _ fun _ _ _ => rfl),h0] at key
  exact key
def pxl (px : List Int) (w j i : Nat) : Int := px.getD (j * w + i) 0
def RR (px : List Int) (w : Nat) (k : Int) : Int := rectS (pxl px w) (k.toNat / (w + 1)) (k.toNat % (w + 1))
def tabS (px : List Int) (w N B : Nat) : List Int := tabL N (fun k => if k < (B : Int) then RR px w k else 0)
theorem RR_at {px : List Int} {w y x : Nat} (hx : x ≤ w) : RR px w ((y * (w + 1) + x : Nat) : Int) = rectS (pxl px w) y x := by
  unfold RR
  rw [Int.toNat_natCast,Nat.mul_comm,Nat.mul_add_div (by omega),Nat.div_eq_of_lt (show x < w + 1 by omega),Nat.mul_add_mod,Nat.mod_eq_of_lt (by omega),Nat.add_zero]
theorem tabS_get {px : List Int} {w N B y x : Nat} (hx : x ≤ w) (hB : y * (w + 1) + x < B) (hN : B ≤ N) : (tabS px w N B).getD (Int.toNat ((y * (w + 1) + x : Nat) : Int)) 0 = rectS (pxl px w) y x := by
  unfold tabS
  rw [tabL_getD (Int.natCast_nonneg _) (Int.ofNat_lt.2 (by omega)),if_pos (Int.ofNat_lt.2 hB),RR_at hx]
theorem tabS_col {px : List Int} {w N B y : Nat} (hB : B = y * (w + 1)) : tabS px w N B = tabS px w N (B + 1) := by
  refine tabL_congr fun k h0 h1 => ?_
  by_cases c : k < (B : Int)
  · rw [if_pos c,if_pos (by omega)]
  · rw [if_neg c]
    by_cases d : k = (B : Int)
    · rw [if_pos (by omega),d]
      have := RR_at (px := px) (y := y) (Nat.zero_le w)
      rw [Nat.add_zero,← hB] at this
      rw [this,rectS_x0]
    · rw [if_neg (by omega)]
theorem tabS_set {px : List Int} {w N y x : Nat} {v : Int} (hx : x ≤ w) (hv : v = rectS (pxl px w) y x) : (tabS px w N (y * (w + 1) + x)).set (Int.toNat ((y * (w + 1) + x : Nat) : Int)) v = tabS px w N (y * (w + 1) + (x + 1)) := by
  have e := RR_at (px := px) (y := y) hx
  rw [← Nat.add_assoc]
  generalize y * (w + 1) + x = K at e ⊢
  refine tabL_set (Int.natCast_nonneg _) ?_ fun k h0 h1 h2 => ?_
  · rw [if_pos (by omega),hv,e]
  · by_cases c : k < (K : Int)
    · rw [if_pos c,if_pos (by omega)]
    · rw [if_neg c,if_neg (by omega)]
theorem tabS_start (px : List Int) (w N : Nat) : tabS px w N (0 * (w + 1) + (w + 1)) = List.replicate N 0 := by
  refine tabL_rep fun k h0 h1 => ?_
  split
  · rename_i c
    obtain ⟨n,rfl⟩ := Int.eq_ofNat_of_zero_le h0
    have := RR_at (px := px) (w := w) (y := 0) (x := n) (by omega)
    rw [Nat.zero_mul,Nat.zero_add] at this
    rw [this];rfl
  · rfl
theorem ix {y w x : Nat} (hy : y ≤ 1025) (hw : w ≤ 1025) (hx : x ≤ 1025) : IntKind.i64.wrap (IntKind.i64.wrap ((y : Int) * (w : Int)) + (x : Int)) = ((y * w + x : Nat) : Int) := by
  have b : y * w ≤ 1025 * 1025 := Nat.mul_le_mul hy hw
  rw [← Int.natCast_mul]
  generalize y * w = K at b ⊢
  rw [wr64 (x := (K : Int)) (by omega) (by omega),wr64 (by omega) (by omega)]
  omega
theorem ix1 {y w x : Nat} (hy : y ≤ 1025) (hw : w ≤ 1025) (hx : x ≤ 1025) : IntKind.i64.wrap (((y * w + x : Nat) : Int) + 1) = ((y * w + (x + 1) : Nat) : Int) := by
  have b : y * w ≤ 1025 * 1025 := Nat.mul_le_mul hy hw
  generalize y * w = K at b ⊢
  rw [wr64 (by omega) (by omega)]
  omega
structure Dim (w h : Nat) (px : List Int) : Prop where
  w0 : 1 ≤ w
  w1 : w ≤ 1024
  h0 : 1 ≤ h
  h1 : h ≤ 1024
  len : px.length = h * w
  byt : Bytes px
section
variable {w h : Nat} {px : List Int} (D : Dim w h px)
include D
theorem Dim.pb (j i : Nat) : 0 ≤ pxl px w j i ∧ pxl px w j i ≤ 255 := D.byt.at _
theorem Dim.rb {y x : Nat} (hy : y ≤ h) (hx : x ≤ w) : 0 ≤ rectS (pxl px w) y x ∧ rectS (pxl px w) y x ≤ 300000000 := by
  have a := rectS_bd (P := pxl px w) (x := x) (y := y) (b := 255) (by omega) fun j i _ _ => D.pb j i
  have w1 := D.w1
  have h1 := D.h1
  have b : y * (x * 255) ≤ 1024 * (1024 * 255) := Nat.mul_le_mul (by omega) (by omega)
  have c : (y : Int) * ((x : Int) * 255) = ((y * (x * 255) : Nat) : Int) := by rw [Int.natCast_mul,Int.natCast_mul];rfl
  rw [c] at a
  generalize y * (x * 255) = K at a b
  omega
def winS (px : List Int) (w h r y x : Nat) : Int :=
  rectS (pxl px w) (min h (y + r + 1)) (min w (x + r + 1)) - rectS (pxl px w) (y - r) (min w (x + r + 1)) - rectS (pxl px w) (min h (y + r + 1)) (x - r) + rectS (pxl px w) (y - r) (x - r)
def cntS (w h r y x : Nat) : Int := (((min w (x + r + 1) - (x - r)) * (min h (y + r + 1) - (y - r)) : Nat) : Int)
def FF (px : List Int) (w h r : Nat) (k : Int) (a b : Int) : Bool := decide (100 * pxl px w b.toNat a.toNat * cntS w h r b.toNat a.toNat < winS px w h r b.toNat a.toNat * (100 - k))
variable {fu : Nat} (hf : 18446744073709551616 ≤ fu) {r : Nat} (r0 : 1 ≤ r) (r1 : r ≤ 16) {k : Int} (k0 : 0 ≤ k) (k1 : k ≤ 100)
include hf r0 r1 k0 k1
/-- the second pass -/
theorem pass2 : loopF (camera_Adaptive_l4 fu (((w : Int),((h : Int),px)),((r : Int),(k,()))) ((w + 1 : Nat) : Int) ((h : Int),tabS px w (h * (w + 1) + (w + 1)) (h * (w + 1) + (w + 1)))) fu (0,canon w h (fun _ _ => false)) = some (((w : Int),((h : Int),canon w h (FF px w h r k))),(0,())) := by
  obtain ⟨w0,w1,h0,h1,len,byt⟩ := id D
  refine stLoop (n := h) (by omega) (st := fun y => ((y : Int),canon w h (fun a b => FF px w h r k a b && decide (b < (y : Int))))) ?_ ?_ ?_
  · show ((0 : Int),_) = _
    rw [canon_congr (Q := fun _ _ => false) (by omega) fun a b _ _ hb _ => by rw [decide_eq_false (by show ¬ b < ((0 : Nat) : Int);omega),Bool.and_false]]
  · intro j y hy
    unfold camera_Adaptive_l4
    simp only
    rw [bif_pos (show (y : Int) < (h : Int) by omega)]
    refine stLoop (n := w) (by omega) (st := fun x => ((x : Int),canon w h (fun a b => FF px w h r k a b && (decide (b < (y : Int)) || (decide (b = (y : Int)) && decide (a < (x : Int))))))) ?_ ?_ ?_
    · refine Prod.ext rfl (canon_congr (by omega) fun a b ha _ _ _ => ?_)
      rw [decide_eq_false (show ¬ a < ((0 : Nat) : Int) by omega),Bool.and_false,Bool.or_false]
    · intro j2 x hx
      unfold camera_Adaptive_l5 camera_Adaptive_j6
      simp only [joinF_eq]
      rw [bif_pos (show (x : Int) < (w : Int) by omega)]
      have ex0 : max (0 : Int) (IntKind.i64.wrap ((x : Int) - (r : Int))) = ((x - r : Nat) : Int) := by rw [wr64 (by omega) (by omega)];omega
      have ex1 : min (w : Int) (IntKind.i64.wrap (IntKind.i64.wrap ((x : Int) + (r : Int)) + 1)) = ((min w (x + r + 1) : Nat) : Int) := by rw [wr64 (x := (x : Int) + (r : Int)) (by omega) (by omega),wr64 (by omega) (by omega)];omega
      have ey0 : max (0 : Int) (IntKind.i64.wrap ((y : Int) - (r : Int))) = ((y - r : Nat) : Int) := by rw [wr64 (by omega) (by omega)];omega
      have ey1 : min (h : Int) (IntKind.i64.wrap (IntKind.i64.wrap ((y : Int) + (r : Int)) + 1)) = ((min h (y + r + 1) : Nat) : Int) := by rw [wr64 (x := (y : Int) + (r : Int)) (by omega) (by omega),wr64 (by omega) (by omega)];omega
      rw [ex0,ex1,ey0,ey1]
      have hF : FF px w h r k (x : Int) (y : Int) = decide (100 * pxl px w y x * cntS w h r y x < winS px w h r y x * (100 - k)) := rfl
      unfold winS cntS at hF
      have c0 : x - r ≤ min w (x + r + 1) := by omega
      have c1 : min w (x + r + 1) ≤ w := by omega
      have c2 : y - r ≤ min h (y + r + 1) := by omega
      have c3 : min h (y + r + 1) ≤ h := by omega
      have c4 : min w (x + r + 1) - (x - r) ≤ 33 := by omega
      have c5 : min h (y + r + 1) - (y - r) ≤ 33 := by omega
      generalize x - r = X0 at *
      generalize min w (x + r + 1) = X1 at *
      generalize y - r = Y0 at *
      generalize min h (y + r + 1) = Y1 at *
      have lt : ∀ a b : Nat,a ≤ h → b ≤ w → a * (w + 1) + b < h * (w + 1) + (w + 1) := fun a b ha hb => by
        have := Nat.mul_le_mul_right (w + 1) ha
        omega
      have b11 := D.rb c3 c1
      have b01 := D.rb (Nat.le_trans c2 c3) c1
      have b10 := D.rb c3 (Nat.le_trans c0 c1)
      have b00 := D.rb (Nat.le_trans c2 c3) (Nat.le_trans c0 c1)
      have hp := D.pb y x
      rw [ix (y := Y1) (w := w + 1) (x := X1) (by omega) (by omega) (by omega),ix (y := Y0) (w := w + 1) (x := X1) (by omega) (by omega) (by omega),ix (y := Y1) (w := w + 1) (x := X0) (by omega) (by omega) (by omega),ix (y := Y0) (w := w + 1) (x := X0) (by omega) (by omega) (by omega),ix (y := y) (w := w) (x := x) (by omega) (by omega) (by omega)]
      have hlen : (tabS px w (h * (w + 1) + (w + 1)) (h * (w + 1) + (w + 1))).length = h * (w + 1) + (w + 1) := tabL_length _ _
      rw [hlen,len]
      have lp : y * w + x < h * w := by
        have := Nat.mul_le_mul_right w (show y + 1 ≤ h by omega)
        rw [Nat.succ_mul] at this
        omega
      rw [bif_and (Int.natCast_nonneg _) (Int.ofNat_lt.2 (lt Y1 X1 c3 c1)),bif_and (Int.natCast_nonneg _) (Int.ofNat_lt.2 (lt Y0 X1 (Nat.le_trans c2 c3) c1)),bif_and (Int.natCast_nonneg _) (Int.ofNat_lt.2 (lt Y1 X0 c3 (Nat.le_trans c0 c1))),bif_and (Int.natCast_nonneg _) (Int.ofNat_lt.2 (lt Y0 X0 (Nat.le_trans c2 c3) (Nat.le_trans c0 c1))),bif_and (Int.natCast_nonneg _) (Int.ofNat_lt.2 lp)]
      rw [tabS_get c1 (lt Y1 X1 c3 c1) (Nat.le_refl _),tabS_get c1 (lt Y0 X1 (Nat.le_trans c2 c3) c1) (Nat.le_refl _),tabS_get (Nat.le_trans c0 c1) (lt Y1 X0 c3 (Nat.le_trans c0 c1)) (Nat.le_refl _),tabS_get (Nat.le_trans c0 c1) (lt Y0 X0 (Nat.le_trans c2 c3) (Nat.le_trans c0 c1)) (Nat.le_refl _)]
      have hpp : px.getD (Int.toNat ((y * w + x : Nat) : Int)) 0 = pxl px w y x := rfl
      rw [hpp]
      generalize pxl px w y x = p at *
      generalize rectS (pxl px w) Y1 X1 = s11 at *
      generalize rectS (pxl px w) Y0 X1 = s01 at *
      generalize rectS (pxl px w) Y1 X0 = s10 at *
      generalize rectS (pxl px w) Y0 X0 = s00 at *
      rw [wr64 (x := s11 - s01) (by omega) (by omega),wr64 (x := s11 - s01 - s10) (by omega) (by omega),wr64 (x := s11 - s01 - s10 + s00) (by omega) (by omega),wr64 (x := p) (by omega) (by omega),wr64 (x := 100 * p) (by omega) (by omega),wr64 (x := (X1 : Int) - (X0 : Int)) (by omega) (by omega),wr64 (x := (Y1 : Int) - (Y0 : Int)) (by omega) (by omega),wr64 (x := 100 - k) (by omega) (by omega)]
      have dx : (X1 : Int) - (X0 : Int) = ((X1 - X0 : Nat) : Int) := by omega
      have dy : (Y1 : Int) - (Y0 : Int) = ((Y1 - Y0 : Nat) : Int) := by omega
      rw [dx,dy]
      have m1 : 0 ≤ 100 * p * ((X1 - X0 : Nat) : Int) ∧ 100 * p * ((X1 - X0 : Nat) : Int) ≤ 25500 * 33 := ⟨Int.mul_nonneg (by omega) (by omega),Int.mul_le_mul (by omega) (by omega) (by omega) (by omega)⟩
      have m2 : 0 ≤ 100 * p * ((X1 - X0 : Nat) : Int) * ((Y1 - Y0 : Nat) : Int) ∧ 100 * p * ((X1 - X0 : Nat) : Int) * ((Y1 - Y0 : Nat) : Int) ≤ 25500 * 33 * 33 := ⟨Int.mul_nonneg m1.1 (by omega),Int.mul_le_mul m1.2 (by omega) (by omega) (by omega)⟩
      have m3 : -(1200000000 * 100) ≤ (s11 - s01 - s10 + s00) * (100 - k) ∧ (s11 - s01 - s10 + s00) * (100 - k) ≤ 1200000000 * 100 := by
        have kk : 0 ≤ 100 - k ∧ 100 - k ≤ 100 := by omega
        have u1 : (s11 - s01 - s10 + s00) * (100 - k) ≤ 1200000000 * (100 - k) := Int.mul_le_mul_of_nonneg_right (by omega) kk.1
        have u2 : -1200000000 * (100 - k) ≤ (s11 - s01 - s10 + s00) * (100 - k) := Int.mul_le_mul_of_nonneg_right (by omega) kk.1
        omega
      rw [wr64 (x := 100 * p * ((X1 - X0 : Nat) : Int)) (by omega) (by omega),wr64 (x := 100 * p * ((X1 - X0 : Nat) : Int) * ((Y1 - Y0 : Nat) : Int)) (by omega) (by omega),wr64 (x := (s11 - s01 - s10 + s00) * (100 - k)) (by omega) (by omega)]
      rw [Int.mul_assoc (100 * p),← Int.natCast_mul,← hF]
      have hx1 : IntKind.i64.wrap ((x : Int) + 1) = ((x + 1 : Nat) : Int) := by rw [wr64 (by omega) (by omega)];omega
      have fin : ∀ b : Bool,FF px w h r k (x : Int) (y : Int) = b → canon w h (fun a c => (FF px w h r k a c && (decide (c < (y : Int)) || (decide (c = (y : Int)) && decide (a < (x : Int))))) || (b && (decide (a = (x : Int)) && decide (c = (y : Int))))) = canon w h (fun a c => FF px w h r k a c && (decide (c < (y : Int)) || (decide (c = (y : Int)) && decide (a < ((x + 1 : Nat) : Int))))) := fun b hb => by
        refine canon_congr (by omega) fun a c _ _ _ _ => ?_
        by_cases e1 : c = (y : Int)
        · by_cases e2 : a = (x : Int)
          · subst e1;subst e2
            rw [hb,decide_eq_false (show ¬ (y : Int) < (y : Int) by omega),decide_eq_true (show (y : Int) = (y : Int) from rfl),decide_eq_false (show ¬ (x : Int) < (x : Int) by omega),decide_eq_true (show (x : Int) = (x : Int) from rfl),decide_eq_true (show (x : Int) < ((x + 1 : Nat) : Int) by omega)]
            cases b <;> rfl
          · rw [decide_eq_false e2,Bool.false_and,Bool.and_false,Bool.or_false]
            by_cases e3 : a < (x : Int)
            · rw [decide_eq_true e3,decide_eq_true (show a < ((x + 1 : Nat) : Int) by omega)]
            · rw [decide_eq_false e3,decide_eq_false (show ¬ a < ((x + 1 : Nat) : Int) by omega)]
        · rw [decide_eq_false e1,Bool.and_false,Bool.and_false,Bool.or_false,Bool.false_and,Bool.false_and]
      cases hb : FF px w h r k (x : Int) (y : Int) with
      | false =>
        simp only [cond_false]
        rw [hx1]
        have := fin false hb
        simp only [Bool.false_and,Bool.or_false] at this
        rw [this]
      | true =>
        simp only [cond_true]
        rw [hx1]
        have := fin true hb
        simp only [Bool.true_and] at this
        rw [← this]
        exact markF_eq fu (w := (w : Int)) (h := (h : Int)) (x := (x : Int)) (y := (y : Int)) (k := fun l => j2 (((x + 1 : Nat) : Int),l)) (by omega) (by omega) (by omega) (by omega) (by omega) (by omega)
    · intro j2
      unfold camera_Adaptive_l5
      simp only
      rw [bif_neg (show ¬ (w : Int) < (w : Int) by omega),wr64 (x := (y : Int) + 1) (by omega) (by omega)]
      rw [canon_congr (Q := fun a b => FF px w h r k a b && decide (b < ((y + 1 : Nat) : Int))) (by omega) fun a b _ ha _ _ => ?_]
      · rfl
      · rw [decide_eq_true ha,Bool.and_true]
        by_cases e1 : b < (y : Int)
        · rw [decide_eq_true e1,decide_eq_true (show b < ((y + 1 : Nat) : Int) by omega),Bool.true_or]
        · by_cases e2 : b = (y : Int)
          · rw [decide_eq_true e2,decide_eq_true (show b < ((y + 1 : Nat) : Int) by omega),Bool.or_true]
          · rw [decide_eq_false e1,decide_eq_false e2,decide_eq_false (show ¬ b < ((y + 1 : Nat) : Int) by omega),Bool.or_false]
  · intro j
    unfold camera_Adaptive_l4
    simp only
    rw [bif_neg (show ¬ (h : Int) < (h : Int) by omega)]
    rw [canon_congr (Q := FF px w h r k) (by omega) fun a b _ _ _ hb => by rw [decide_eq_true hb,Bool.and_true]]
end
end Cm
end Go.Proofs.Ytelpkjellakigaa
/- camera.Adaptive and the law CameraSurroundings. -/
namespace Go.Proofs.Ytelpkjellakigaa
open Go Go.RowKit
set_option linter.unusedSimpArgs false
set_option linter.unusedSectionVars false
set_option linter.unusedVariables false
namespace Cm
section
variable {w h : Nat} {px : List Int} (D : Dim w h px)
variable {fu : Nat} (hf : 18446744073709551616 ≤ fu) {r : Nat} (r0 : 1 ≤ r) (r1 : r ≤ 16) {k : Int} (k0 : 0 ≤ k) (k1 : k ≤ 100)
include D hf r0 r1 k0 k1
theorem pass1 : loopF (camera_Adaptive_l2 fu (((w : Int),((h : Int),px)),((r : Int),(k,()))) ((w + 1 : Nat) : Int)) fu (0,List.replicate (h * (w + 1) + (w + 1)) 0) = some (((w : Int),((h : Int),canon w h (FF px w h r k))),(0,())) := by
  obtain ⟨w0,w1,h0,h1,len,byt⟩ := id D
  refine stLoop (n := h) (by omega) (st := fun y => ((y : Int),tabS px w (h * (w + 1) + (w + 1)) (y * (w + 1) + (w + 1)))) ?_ ?_ ?_
  · exact Prod.ext rfl (tabS_start px w _)
  · intro j y hy
    unfold camera_Adaptive_l2
    simp only
    rw [bif_pos (show (y : Int) < (h : Int) by omega)]
    refine stLoop (n := w) (by omega) (st := fun x => ((x : Int),tabS px w (h * (w + 1) + (w + 1)) ((y + 1) * (w + 1) + (x + 1)))) ?_ ?_ ?_
    · refine Prod.ext rfl ?_
      show tabS px w (h * (w + 1) + (w + 1)) ((y + 1) * (w + 1) + 1) = tabS px w (h * (w + 1) + (w + 1)) (y * (w + 1) + (w + 1))
      rw [Nat.succ_mul]
      exact (tabS_col (y := y + 1) (Nat.succ_mul y (w + 1)).symm).symm
    · intro j2 x hx
      unfold camera_Adaptive_l3
      simp only
      rw [bif_pos (show (x : Int) < (w : Int) by omega)]
      have hy1 : IntKind.i64.wrap ((y : Int) + 1) = ((y + 1 : Nat) : Int) := by rw [wr64 (by omega) (by omega)];omega
      have hx1 : IntKind.i64.wrap ((x : Int) + 1) = ((x + 1 : Nat) : Int) := by rw [wr64 (by omega) (by omega)];omega
      rw [hy1,hx1]
      rw [ix (y := y) (w := w) (x := x) (by omega) (by omega) (by omega),ix (y := y) (w := w + 1) (x := x) (by omega) (by omega) (by omega),ix (y := y + 1) (w := w + 1) (x := x) (by omega) (by omega) (by omega),ix1 (y := y) (w := w + 1) (x := x) (by omega) (by omega) (by omega),ix1 (y := y + 1) (w := w + 1) (x := x) (by omega) (by omega) (by omega)]
      have hlen : ∀ B,(tabS px w (h * (w + 1) + (w + 1)) B).length = h * (w + 1) + (w + 1) := fun B => tabL_length _ _
      have lp : y * w + x < h * w := by
        have := Nat.mul_le_mul_right w (show y + 1 ≤ h by omega)
        rw [Nat.succ_mul] at this
        omega
      have l1 : (y + 1) * (w + 1) + (x + 1) < h * (w + 1) + (w + 1) := by
        have := Nat.mul_le_mul_right (w + 1) (show y + 1 ≤ h by omega)
        omega
      have l2 : y * (w + 1) + (x + 1) < (y + 1) * (w + 1) + (x + 1) := by rw [Nat.succ_mul];omega
      rw [hlen,len,bif_and (Int.natCast_nonneg _) (Int.ofNat_lt.2 lp),bif_and (Int.natCast_nonneg _) (Int.ofNat_lt.2 (Nat.lt_trans l2 l1)),bif_and (Int.natCast_nonneg _) (Int.ofNat_lt.2 (by omega)),bif_and (Int.natCast_nonneg _) (Int.ofNat_lt.2 (by omega)),bif_and (Int.natCast_nonneg _) (Int.ofNat_lt.2 l1)]
      rw [tabS_get (y := y) (x := x + 1) (by omega) l2 (by omega),tabS_get (y := y + 1) (x := x) (by omega) (by omega) (by omega),tabS_get (y := y) (x := x) (by omega) (by omega) (by omega)]
      have hpp : px.getD (Int.toNat ((y * w + x : Nat) : Int)) 0 = pxl px w y x := rfl
      rw [hpp]
      have hp := D.pb y x
      have b1 := D.rb (y := y) (x := x + 1) (by omega) (by omega)
      have b2 := D.rb (y := y + 1) (x := x) (by omega) (by omega)
      have b3 := D.rb (y := y) (x := x) (by omega) (by omega)
      have hr := rectS_rec (pxl px w) y x
      rw [wr64 (x := pxl px w y x) (by omega) (by omega),wr64 (x := pxl px w y x + rectS (pxl px w) y (x + 1)) (by omega) (by omega),wr64 (x := pxl px w y x + rectS (pxl px w) y (x + 1) + rectS (pxl px w) (y + 1) x) (by omega) (by omega),wr64 (x := pxl px w y x + rectS (pxl px w) y (x + 1) + rectS (pxl px w) (y + 1) x - rectS (pxl px w) y x) (by omega) (by omega)]
      rw [tabS_set (by omega) hr]
    · intro j2
      unfold camera_Adaptive_l3
      simp only
      rw [bif_neg (show ¬ (w : Int) < (w : Int) by omega),wr64 (x := (y : Int) + 1) (by omega) (by omega)]
      rfl
  · intro j
    unfold camera_Adaptive_l2
    simp only
    rw [bif_neg (show ¬ (h : Int) < (h : Int) by omega),stride_r fu (by omega) (by omega)]
    simp only [bindO_some]
    obtain ⟨s1,s2,s3,s4⟩ := strd_bd (w := (w : Int)) (h := (h : Int)) (by omega) (by omega) (by omega) (by omega)
    rw [wr64 (x := strd (w : Int) * (h : Int)) (by omega) (by omega),bif_and s3 (by omega),← canon_zero (w : Int) (h : Int) (P := fun _ _ => false) (fun _ _ => rfl)]
    exact pass2 D hf r0 r1 k0 k1
end
def gE (w h : Int) (n : Nat) : Int := if (1 ≤ w ∧ w ≤ 1024) ∧ 1 ≤ h ∧ h ≤ 1024 then (if (n : Int) = w * h then 0 else 4) else 3
theorem wh_bd {w h : Int} (c : (1 ≤ w ∧ w ≤ 1024) ∧ 1 ≤ h ∧ h ≤ 1024) : IntKind.i64.wrap (w * h) = w * h := by
  have a1 : w * h ≤ 1024 * 1024 := Int.mul_le_mul (by omega) (by omega) (by omega) (by omega)
  have a2 : 0 ≤ w * h := Int.mul_nonneg (by omega) (by omega)
  exact wr64 (by omega) (by omega)
theorem gray_r (fu : Nat) (w h : Int) (px : List Int) : camera_Check_r fu ((w,(h,px)),()) = some (gE w h px.length,()) := by
  unfold camera_Check_r
  simp only [joinF_eq]
  have jt : camera_Check_j1 fu ((w,(h,px)),()) true = some (3,()) := rfl
  unfold gE
  by_cases c : (1 ≤ w ∧ w ≤ 1024) ∧ 1 ≤ h ∧ h ≤ 1024
  · rw [if_pos c,bif_neg (by omega),bif_neg (by omega),bif_neg (by omega),decide_eq_false (show ¬ 1024 < h by omega)]
    unfold camera_Check_j1
    simp only [cond_false]
    rw [wh_bd c]
    by_cases e : (px.length : Int) = w * h
    · rw [bif_neg (fun g => g e),if_pos e]
    · rw [bif_pos e,if_neg e]
  · rw [if_neg c]
    by_cases c1 : w < 1
    · rw [bif_pos c1,jt]
    rw [bif_neg c1]
    by_cases c2 : 1024 < w
    · rw [bif_pos c2,jt]
    rw [bif_neg c2]
    by_cases c3 : h < 1
    · rw [bif_pos c3,jt]
    rw [bif_neg c3,decide_eq_true (show 1024 < h by omega),jt]
theorem adaptive_bad (fu : Nat) {w h r k : Int} {px : List Int} (e : gE w h px.length ≠ 0) : camera_Adaptive_r fu ((w,(h,px)),(r,(k,()))) = some ((0,(0,[])),(gE w h px.length,())) := by
  unfold camera_Adaptive_r
  simp only [gray_r,bindO_some]
  rw [bif_pos e]
theorem adaptive_bad2 (fu : Nat) {w h r k : Int} {px : List Int} (e : gE w h px.length = 0) (c : ¬ ((1 ≤ r ∧ r ≤ 16) ∧ 0 ≤ k ∧ k ≤ 100)) : camera_Adaptive_r fu ((w,(h,px)),(r,(k,()))) = some ((0,(0,[])),(3,())) := by
  unfold camera_Adaptive_r
  simp only [gray_r,bindO_some,joinF_eq]
  have jt : camera_Adaptive_j1 fu ((w,(h,px)),(r,(k,()))) true = some ((0,(0,[])),(3,())) := rfl
  rw [bif_neg (fun g => g e)]
  by_cases c1 : r < 1
  · rw [bif_pos c1,jt]
  rw [bif_neg c1]
  by_cases c2 : 16 < r
  · rw [bif_pos c2,jt]
  rw [bif_neg c2]
  by_cases c3 : k < 0
  · rw [bif_pos c3,jt]
  rw [bif_neg c3,decide_eq_true (show 100 < k by omega),jt]
theorem dim_of {w h : Int} {px : List Int} (hb : Bytes px) (e : gE w h px.length = 0) : ∃ wn hn : Nat,w = wn ∧ h = hn ∧ Dim wn hn px := by
  unfold gE at e
  by_cases c : (1 ≤ w ∧ w ≤ 1024) ∧ 1 ≤ h ∧ h ≤ 1024
  · rw [if_pos c] at e
    by_cases d : (px.length : Int) = w * h
    · obtain ⟨wn,rfl⟩ := Int.eq_ofNat_of_zero_le (show 0 ≤ w by omega)
      obtain ⟨hn,rfl⟩ := Int.eq_ofNat_of_zero_le (show 0 ≤ h by omega)
      refine ⟨wn,hn,rfl,rfl,by omega,by omega,by omega,by omega,?_,hb⟩
      rw [Nat.mul_comm]
      have : (px.length : Int) = ((wn * hn : Nat) : Int) := by rw [Int.natCast_mul];exact d
      omega
    · rw [if_neg d] at e;omega
  · rw [if_neg c] at e;omega
theorem adaptive_ok {fu : Nat} (hf : 18446744073709551616 ≤ fu) {w h r : Nat} {k : Int} {px : List Int} (D : Dim w h px) (e : gE w h px.length = 0) (r0 : 1 ≤ r) (r1 : r ≤ 16) (k0 : 0 ≤ k) (k1 : k ≤ 100) :
    camera_Adaptive_r fu (((w : Int),((h : Int),px)),((r : Int),(k,()))) = some (((w : Int),((h : Int),canon w h (FF px w h r k))),(0,())) := by
  unfold camera_Adaptive_r
  simp only [gray_r,bindO_some,joinF_eq]
  obtain ⟨w0,w1,h0,h1,len,byt⟩ := id D
  rw [bif_neg (fun g => g e),bif_neg (by omega),bif_neg (by omega),bif_neg (by omega),decide_eq_false (show ¬ 100 < k by omega)]
  unfold camera_Adaptive_j1
  simp only [cond_false]
  have e1 : IntKind.i64.wrap ((w : Int) + 1) = ((w + 1 : Nat) : Int) := by rw [wr64 (by omega) (by omega)];omega
  have e2 : IntKind.i64.wrap ((h : Int) + 1) = ((h + 1 : Nat) : Int) := by rw [wr64 (by omega) (by omega)];omega
  have e3 : IntKind.i64.wrap (((w + 1 : Nat) : Int) * ((h + 1 : Nat) : Int)) = ((h * (w + 1) + (w + 1) : Nat) : Int) := by
    have b : (w + 1) * (h + 1) ≤ 1025 * 1025 := Nat.mul_le_mul (by omega) (by omega)
    have c : (w + 1) * (h + 1) = h * (w + 1) + (w + 1) := by rw [Nat.mul_succ,Nat.mul_comm]
    rw [c] at b
    rw [← Int.natCast_mul,c]
    generalize h * (w + 1) = K at b ⊢
    exact wr64 (by omega) (by omega)
  have b : h * (w + 1) ≤ 1024 * 1025 := Nat.mul_le_mul (by omega) (by omega)
  rw [e1,e2,e3,bif_and (Int.natCast_nonneg _) (by generalize h * (w + 1) = K at b ⊢;omega),Int.toNat_natCast]
  exact pass1 D hf r0 r1 k0 k1
end Cm
end Go.Proofs.Ytelpkjellakigaa
/- The law CameraSurroundings. -/
namespace Go.Proofs.Ytelpkjellakigaa
open Go Go.RowKit
set_option linter.unusedSimpArgs false
set_option linter.unusedSectionVars false
set_option linter.unusedVariables false
namespace Cm
theorem sumN_const (c : Int) : ∀ n : Nat,sumN (fun _ => c) n = n * c
  | 0 => by simp [sumN]
  | n + 1 => by rw [sumN,sumN_const c n,Int.natCast_add,Int.add_mul];simp
theorem rect_one (y x : Nat) : rectS (fun _ _ => 1) y x = ((y * x : Nat) : Int) := by
  unfold rectS
  rw [sumN_congr (g := fun _ => (x : Int)) fun j _ => by rw [sumN_const,Int.mul_one],sumN_const,Int.natCast_mul]
/-- pixel j lies in the window of pixel i -/
def inW (w h r i j : Nat) : Prop := ((i / w - r ≤ j / w ∧ j / w < min h (i / w + r + 1)) ∧ (i % w - r ≤ j % w ∧ j % w < min w (i % w + r + 1)))
instance (w h r i j : Nat) : Decidable (inW w h r i j) := by unfold inW;infer_instance
theorem ite_iff {p q : Prop} [Decidable p] [Decidable q] (h : p ↔ q) (a b : Int) : (if p then a else b) = if q then a else b := by
  by_cases c : p
  · rw [if_pos c,if_pos (h.1 c)]
  · rw [if_neg c,if_neg (fun g => c (h.2 g))]
theorem wrN {n : Nat} (h : n ≤ 2000) : IntKind.i64.wrap (n : Int) = n := wr64 (by omega) (by omega)
theorem wrS {a b : Nat} (h : a ≤ 2000) (k : b ≤ 2000) : IntKind.i64.wrap ((a : Int) - (b : Int)) = (a : Int) - b := wr64 (by omega) (by omega)
theorem cut {a h : Nat} (r : Nat) (ha : a < h) : a - r ≤ min h (a + r + 1) ∧ min h (a + r + 1) ≤ h := by omega
def sumW (px : List Int) (w h r i n : Nat) : Int := sumN (fun j => if inW w h r i j then px.getD j 0 else 0) n
def cntW (w h r i n : Nat) : Int := sumN (fun j => if inW w h r i j then 1 else 0) n
section
variable {w h : Nat} {px : List Int} (D : Dim w h px)
include D
theorem flat_at {x : Nat} (hx : x < w) (j : Nat) : (j * w + x) / w = j ∧ (j * w + x) % w = x := by
  have hw : 0 < w := by omega
  constructor
  · rw [Nat.mul_comm,Nat.mul_add_div hw,Nat.div_eq_of_lt hx,Nat.add_zero]
  · rw [Nat.mul_comm,Nat.mul_add_mod,Nat.mod_eq_of_lt hx]
theorem inW_flat {r i j x : Nat} (hx : x < w) : inW w h r i (j * w + x) ↔ ((i / w - r ≤ j ∧ j < min h (i / w + r + 1)) ∧ (i % w - r ≤ x ∧ x < min w (i % w + r + 1))) := by
  unfold inW
  rw [(flat_at D hx j).1,(flat_at D hx j).2]
theorem sumW_all (r i : Nat) (hi : i / w < h) (hi2 : i % w < w) : sumW px w h r i (h * w) = winS px w h r (i / w) (i % w) := by
  unfold sumW winS
  rw [sumN_flat,← rectS_win (pxl px w) (w := w) (h := h) (x0 := i % w - r) (x1 := min w (i % w + r + 1)) (y0 := i / w - r) (y1 := min h (i / w + r + 1)) (cut r hi2).1 (cut r hi2).2 (cut r hi).1 (cut r hi).2]
  refine sumN_congr fun j _ => sumN_congr fun x hx => ?_
  exact ite_iff (inW_flat D hx) _ _
theorem cntW_all (r i : Nat) (hi : i / w < h) (hi2 : i % w < w) : cntW w h r i (h * w) = cntS w h r (i / w) (i % w) := by
  unfold cntW
  rw [sumN_flat]
  have e : ∀ j,j < h → sumN (fun x => if inW w h r i (j * w + x) then (1 : Int) else 0) w = sumN (fun x => if (i / w - r ≤ j ∧ j < min h (i / w + r + 1)) ∧ (i % w - r ≤ x ∧ x < min w (i % w + r + 1)) then (fun _ _ => (1 : Int)) j x else 0) w := fun j _ => sumN_congr fun x hx => ite_iff (inW_flat D hx) _ _
  rw [sumN_congr e,rectS_win (fun _ _ => (1 : Int)) (cut r hi2).1 (cut r hi2).2 (cut r hi).1 (cut r hi).2,rect_one,rect_one,rect_one,rect_one]
  unfold cntS
  have c0 := (cut r hi2).1
  have c1 := (cut r hi).1
  generalize i % w - r = X0 at c0 ⊢
  generalize min w (i % w + r + 1) = X1 at c0 ⊢
  generalize i / w - r = Y0 at c1 ⊢
  generalize min h (i / w + r + 1) = Y1 at c1 ⊢
  obtain ⟨a,rfl⟩ := Nat.exists_eq_add_of_le c0
  obtain ⟨b,rfl⟩ := Nat.exists_eq_add_of_le c1
  rw [Nat.add_sub_cancel_left,Nat.add_sub_cancel_left]
  simp only [Int.natCast_mul,Int.natCast_add]
  grind
variable {fu : Nat} (hf : 18446744073709551616 ≤ fu) {r : Nat} (r0 : 1 ≤ r) (r1 : r ≤ 16) {k : Int} (k0 : 0 ≤ k) (k1 : k ≤ 100) (hn : h * w ≤ 300)
include hf r0 r1 k0 k1 hn
theorem inner (v6 : Int × List Bool) (j6 : (Int × List Bool) → Option (Bool × Unit)) {i : Nat} (hi : i < h * w) (hv : v6.2.length = h * w) (hv1 : v6.1 = (i : Int)) :
    loopF (law_CameraSurroundings_l4 fu (((w : Int),((h : Int),px)),((r : Int),(k,()))) v6 (px.getD i 0) (i : Int) j6) fu (0,(0,0)) = j6 (((i + 1 : Nat) : Int),v6.2.set i (FF px w h r k ((i % w : Nat) : Int) ((i / w : Nat) : Int))) := by
  obtain ⟨w0,w1,h0,h1,len,byt⟩ := id D
  have hiw : i / w < h := Nat.div_lt_of_lt_mul (by rw [Nat.mul_comm];exact hi)
  have him : i % w < w := Nat.mod_lt _ (by omega)
  have sb : ∀ n : Nat,n ≤ 300 → 0 ≤ sumW px w h r i n ∧ sumW px w h r i n ≤ 76500 := fun n hn => by
    have := sumN_bd (f := fun j => if inW w h r i j then px.getD j 0 else 0) (b := 255) (by omega) (n := n) fun j _ => by
      have := byt.at j
      split <;> omega
    unfold sumW
    omega
  have cb : ∀ n : Nat,n ≤ 300 → 0 ≤ cntW w h r i n ∧ cntW w h r i n ≤ 300 := fun n hn => by
    have := sumN_bd (f := fun j => if inW w h r i j then (1 : Int) else 0) (b := 1) (by omega) (n := n) fun j _ => by
      split <;> omega
    unfold cntW
    omega
  refine stLoop (n := h * w) (by omega) (st := fun j => (sumW px w h r i j,(cntW w h r i j,(j : Int)))) rfl ?_ ?_
  · intro j q hq
    have hqw : q / w < h := Nat.div_lt_of_lt_mul (by rw [Nat.mul_comm];exact hq)
    have hqm : q % w < w := Nat.mod_lt _ (by omega)
    unfold law_CameraSurroundings_l4 law_CameraSurroundings_j5
    simp only [joinF_eq]
    rw [len,bif_pos (show (q : Int) < ((h * w : Nat) : Int) from Int.ofNat_lt.2 hq),bif_and (Int.natCast_nonneg _) (Int.ofNat_lt.2 hq),bif_pos (show (w : Int) ≠ 0 by omega),bif_pos (show (w : Int) ≠ 0 by omega),bif_pos (show (w : Int) ≠ 0 by omega),bif_pos (show (w : Int) ≠ 0 by omega)]
    rw [show Int.tmod (q : Int) (w : Int) = ((q % w : Nat) : Int) from rfl,show Int.tmod (i : Int) (w : Int) = ((i % w : Nat) : Int) from rfl,show Int.tdiv (q : Int) (w : Int) = ((q / w : Nat) : Int) from rfl,show Int.tdiv (i : Int) (w : Int) = ((i / w : Nat) : Int) from rfl,Int.toNat_natCast]
    have s0 := sb q (by omega)
    have s1 := cb q (by omega)
    have p0 := byt.at q
    have hq1 : IntKind.i64.wrap ((q : Int) + 1) = ((q + 1 : Nat) : Int) := by rw [wr64 (by omega) (by omega)];omega
    have hin : ∀ b : Bool,b = decide (inW w h r i q) → law_CameraSurroundings_j6 fu (sumW px w h r i q,(cntW w h r i q,(q : Int))) (px.getD q 0) (fun v10 => j (v10.2.1,(v10.2.2,IntKind.i64.wrap (v10.1 + 1)))) (b,(sumW px w h r i q,cntW w h r i q)) = j (sumW px w h r i (q + 1),(cntW w h r i (q + 1),((q + 1 : Nat) : Int))) := fun b hb => by
      have e1 : sumW px w h r i (q + 1) = sumW px w h r i q + (if inW w h r i q then px.getD q 0 else 0) := rfl
      have e2 : cntW w h r i (q + 1) = cntW w h r i q + (if inW w h r i q then 1 else 0) := rfl
      unfold law_CameraSurroundings_j6
      simp only
      rw [hq1,e1,e2]
      by_cases c : inW w h r i q
      · rw [hb,bif_pos c,if_pos c,if_pos c,wr64 (x := px.getD q 0) (by omega) (by omega),wr64 (x := sumW px w h r i q + px.getD q 0) (by omega) (by omega),wr64 (x := cntW w h r i q + 1) (by omega) (by omega)]
      · rw [hb,bif_neg c,if_neg c,if_neg c,Int.add_zero,Int.add_zero]
    rw [wrS (a := q % w) (b := i % w) (by omega) (by omega),wrN (n := q / w) (by omega),wrN (n := i / w) (by omega),wrS (a := q / w) (b := i / w) (by omega) (by omega),wr64 (x := -(r : Int)) (by omega) (by omega)]
    simp only [within_r,bindO_some]
    by_cases c1 : -(r : Int) ≤ ((q % w : Nat) : Int) - ((i % w : Nat) : Int) ∧ ((q % w : Nat) : Int) - ((i % w : Nat) : Int) ≤ (r : Int)
    · rw [bif_and c1.1 c1.2]
      refine hin _ ?_
      have e : inW w h r i q ↔ (-(r : Int) ≤ ((q / w : Nat) : Int) - ((i / w : Nat) : Int) ∧ ((q / w : Nat) : Int) - ((i / w : Nat) : Int) ≤ (r : Int)) := by
        unfold inW
        generalize q / w = a at *
        generalize q % w = b at *
        generalize i / w = c at *
        generalize i % w = d at *
        omega
      by_cases c2 : inW w h r i q
      · have := e.1 c2
        rw [decide_eq_true c2,decide_eq_true this.1,decide_eq_true this.2];rfl
      · rw [decide_eq_false c2]
        have := mt e.2 c2
        by_cases d1 : -(r : Int) ≤ ((q / w : Nat) : Int) - ((i / w : Nat) : Int)
        · rw [decide_eq_true d1,decide_eq_false (fun g => this ⟨d1,g⟩)];rfl
        · rw [decide_eq_false d1];rfl
    · rw [bif_nand c1]
      refine hin _ ?_
      rw [decide_eq_false]
      unfold inW
      generalize q / w = a at *
      generalize q % w = b at *
      generalize i / w = c at *
      generalize i % w = d at *
      omega
  · intro j
    unfold law_CameraSurroundings_l4
    simp only
    have s0 := sb (h * w) hn
    have s1 := cb (h * w) hn
    have p0 := byt.at i
    rw [len,bif_neg (show ¬ ((h * w : Nat) : Int) < ((h * w : Nat) : Int) from Int.lt_irrefl _),hv,bif_and (Int.natCast_nonneg _) (Int.ofNat_lt.2 hi),Int.toNat_natCast,hv1]
    have m1 : 0 ≤ 100 * px.getD i 0 * cntW w h r i (h * w) ∧ 100 * px.getD i 0 * cntW w h r i (h * w) ≤ 25500 * 300 := ⟨Int.mul_nonneg (by omega) (by omega),Int.mul_le_mul (by omega) (by omega) (by omega) (by omega)⟩
    have m2 : 0 ≤ sumW px w h r i (h * w) * (100 - k) ∧ sumW px w h r i (h * w) * (100 - k) ≤ 76500 * 100 := ⟨Int.mul_nonneg (by omega) (by omega),Int.mul_le_mul (by omega) (by omega) (by omega) (by omega)⟩
    rw [wr64 (x := (i : Int) + 1) (by omega) (by omega),wr64 (x := px.getD i 0) (by omega) (by omega),wr64 (x := 100 * px.getD i 0) (by omega) (by omega),wr64 (x := 100 - k) (by omega) (by omega),wr64 (x := 100 * px.getD i 0 * cntW w h r i (h * w)) (by omega) (by omega),wr64 (x := sumW px w h r i (h * w) * (100 - k)) (by omega) (by omega)]
    have ep : px.getD i 0 = pxl px w (i / w) (i % w) := by
      unfold pxl
      rw [Nat.mul_comm,Nat.div_add_mod]
    rw [sumW_all D r i hiw him,cntW_all D r i hiw him,ep]
    rfl
/-- the law's picture -/
theorem search (e : Int) (he : e = 0) : loopF (law_CameraSurroundings_l3 fu (((w : Int),((h : Int),px)),((r : Int),(k,()))) (((w : Int),((h : Int),canon w h (FF px w h r k))),(0,())) e) fu (0,List.replicate (h * w) false) = some (true,()) := by
  obtain ⟨w0,w1,h0,h1,len,byt⟩ := id D
  refine stLoop (n := h * w) (by omega) (st := fun i => ((i : Int),tabL (h * w) (fun q => if q < (i : Int) then FF px w h r k (q % (w : Int)) (q / (w : Int)) else false))) ?_ ?_ ?_
  · refine Prod.ext rfl ?_
    show tabL (h * w) (fun q => if q < ((0 : Nat) : Int) then FF px w h r k (q % (w : Int)) (q / (w : Int)) else false) = List.replicate (h * w) false
    exact tabL_rep fun q h0 _ => if_neg (by omega)
  · intro j i hi
    unfold law_CameraSurroundings_l3
    simp only
    rw [len,bif_pos (show (i : Int) < ((h * w : Nat) : Int) from Int.ofNat_lt.2 hi),bif_and (Int.natCast_nonneg _) (Int.ofNat_lt.2 hi),Int.toNat_natCast]
    rw [inner D hf r0 r1 k0 k1 hn _ j hi (by simp only [tabL_length]) rfl]
    congr 2
    have := tabL_set (n := h * w) (G := fun q => if q < (i : Int) then FF px w h r k (q % (w : Int)) (q / (w : Int)) else false) (G' := fun q => if q < ((i + 1 : Nat) : Int) then FF px w h r k (q % (w : Int)) (q / (w : Int)) else false) (k := (i : Int)) (v := FF px w h r k ((i % w : Nat) : Int) ((i / w : Nat) : Int)) (Int.natCast_nonneg _) (by rw [if_pos (by omega)];rfl) (fun q _ _ h2 => by
      by_cases c : q < (i : Int)
      · rw [if_pos c,if_pos (by omega)]
      · rw [if_neg c,if_neg (by omega)])
    exact this
  · intro j
    unfold law_CameraSurroundings_l3
    simp only
    rw [len,bif_neg (show ¬ ((h * w : Nat) : Int) < ((h * w : Nat) : Int) from Int.lt_irrefl _),bif_pos he]
    have hon : tabL (h * w) (fun q => if q < ((h * w : Nat) : Int) then FF px w h r k (q % (w : Int)) (q / (w : Int)) else false) = onL ((w : Int) * (h : Int)).toNat (fun q => FF px w h r k (q % (w : Int)) (q / (w : Int))) := by
      rw [show ((w : Int) * (h : Int)).toNat = h * w by rw [← Int.natCast_mul,Int.toNat_natCast,Nat.mul_comm]]
      have ht : tabL (h * w) (fun q => if q < ((h * w : Nat) : Int) then FF px w h r k (q % (w : Int)) (q / (w : Int)) else false) = tabL (h * w) (fun q => FF px w h r k (q % (w : Int)) (q / (w : Int))) := tabL_congr fun q _ h1 => if_pos h1
      exact ht
    rw [hon,drawn_on hf (by omega) (by omega) (by omega) (by omega)]
    simp only [bindO_some,same_r]
end
theorem cameraSurroundings_r {fu : Nat} (hf : 18446744073709551616 ≤ fu) (w h r k : Int) {px : List Int} (hb : Bytes px) (hW : law_cameraWorks_r fu () = some (true,())) : law_CameraSurroundings_r fu ((w,(h,px)),(r,(k,()))) = some (true,()) := by
  unfold law_CameraSurroundings_r
  simp only [hW,bindO_some,Bool.not_true,cond_false,joinF_eq]
  -- the errors
  have bad : ∀ e : Int,e ≠ 0 → law_CameraSurroundings_j2 fu ((w,(h,px)),(r,(k,()))) ((0,(0,[])),(e,())) e e = some (true,()) := fun e he => by
    unfold law_CameraSurroundings_j2
    rw [bif_pos he,refused_r]
    rfl
  have main : ∀ (v1 : (Int × Int × List Int) × Int × Unit),camera_Adaptive_r fu ((w,(h,px)),(r,(k,()))) = some v1 → law_CameraSurroundings_j1 fu ((w,(h,px)),(r,(k,()))) v1 v1.2.1 (gE w h px.length) = some (true,()) := fun v1 hv => by
    unfold law_CameraSurroundings_j1
    simp only [gray_r,bindO_some,joinF_eq]
    rw [bif_neg (fun g => g rfl)]
    by_cases e : gE w h px.length = 0
    · rw [e,bif_pos rfl]
      simp only [within_r,bindO_some]
      by_cases c : (1 ≤ r ∧ r ≤ 16) ∧ 0 ≤ k ∧ k ≤ 100
      · rw [decide_eq_true c.1.1,decide_eq_true c.1.2,decide_eq_true c.2.1,decide_eq_true c.2.2]
        simp only [Bool.and_self,Bool.not_true,cond_false]
        unfold law_CameraSurroundings_j7
        simp only [cond_false]
        obtain ⟨wn,hn,rfl,rfl,D⟩ := dim_of hb e
        obtain ⟨rn,rfl⟩ := Int.eq_ofNat_of_zero_le (show 0 ≤ r by omega)
        have ha := adaptive_ok hf D e (r := rn) (by omega) (by omega) c.2.1 c.2.2
        rw [ha] at hv
        injection hv with hv
        subst hv
        unfold law_CameraSurroundings_j2
        simp only
        rw [bif_neg (fun g => g rfl),D.len]
        by_cases c3 : (300 : Int) < ((hn * wn : Nat) : Int)
        · rw [bif_pos c3]
        · have hn3 : hn * wn ≤ 300 := by omega
          rw [bif_neg c3,bif_and (Int.natCast_nonneg _) (by omega),Int.toNat_natCast]
          exact search D hf (by omega) (by omega) c.2.1 c.2.2 hn3 0 rfl
      · rw [adaptive_bad2 fu e c] at hv
        injection hv with hv
        subst hv
        have b3 := bad 3 (by omega)
        have j7t : ∀ v,law_CameraSurroundings_j7 fu (law_CameraSurroundings_j2 fu ((w,(h,px)),(r,(k,()))) ((0,(0,[])),(3,())) 3) (true,v) = some (true,()) := fun v => b3
        by_cases c1 : 1 ≤ r ∧ r ≤ 16
        · rw [decide_eq_true c1.1,decide_eq_true c1.2]
          simp only [Bool.and_self,Bool.not_true,cond_false]
          have : (!(decide (0 ≤ k) && decide (k ≤ 100))) = true := by
            by_cases d : 0 ≤ k
            · rw [decide_eq_false (show ¬ k ≤ 100 by omega),Bool.and_false];rfl
            · rw [decide_eq_false d];rfl
          rw [this]
          exact j7t 0
        · have : (!(decide (1 ≤ r) && decide (r ≤ 16))) = true := by
            by_cases d : 1 ≤ r
            · rw [decide_eq_false (show ¬ r ≤ 16 by omega),Bool.and_false];rfl
            · rw [decide_eq_false d];rfl
          rw [this]
          exact j7t 0
    · rw [bif_neg e]
      rw [adaptive_bad fu e] at hv
      injection hv with hv
      subst hv
      exact bad _ e
  have run : ∃ v1,camera_Adaptive_r fu ((w,(h,px)),(r,(k,()))) = some v1 := by
    by_cases e : gE w h px.length = 0
    · by_cases c : (1 ≤ r ∧ r ≤ 16) ∧ 0 ≤ k ∧ k ≤ 100
      · obtain ⟨wn,hn,rfl,rfl,D⟩ := dim_of hb e
        obtain ⟨rn,rfl⟩ := Int.eq_ofNat_of_zero_le (show 0 ≤ r by omega)
        exact ⟨_,adaptive_ok hf D e (r := rn) (by omega) (by omega) c.2.1 c.2.2⟩
      · exact ⟨_,adaptive_bad2 fu e c⟩
    · exact ⟨_,adaptive_bad fu e⟩
  obtain ⟨v1,hv⟩ := run
  have hm := main v1 hv
  rw [hv]
  simp only [bindO_some,within_r]
  unfold gE at hm
  have j3 : law_CameraSurroundings_j8 fu ((w,(h,px)),(r,(k,()))) (law_CameraSurroundings_j1 fu ((w,(h,px)),(r,(k,()))) v1 v1.2.1) (true,0) = law_CameraSurroundings_j1 fu ((w,(h,px)),(r,(k,()))) v1 v1.2.1 3 := rfl
  by_cases c1 : 1 ≤ w ∧ w ≤ 1024
  · rw [decide_eq_true c1.1,decide_eq_true c1.2]
    simp only [Bool.and_self,Bool.not_true,cond_false]
    by_cases c2 : 1 ≤ h ∧ h ≤ 1024
    · rw [decide_eq_true c2.1,decide_eq_true c2.2]
      rw [if_pos ⟨c1,c2⟩] at hm
      unfold law_CameraSurroundings_j8
      simp only [Bool.and_self,Bool.not_true,cond_false]
      rw [wh_bd ⟨c1,c2⟩]
      by_cases e : (px.length : Int) = w * h
      · rw [if_pos e] at hm
        rw [bif_neg (fun g => g e)]
        exact hm
      · rw [if_neg e] at hm
        rw [bif_pos e]
        exact hm
    · rw [if_neg (fun g => c2 g.2)] at hm
      have : (!(decide (1 ≤ h) && decide (h ≤ 1024))) = true := by
        by_cases d : 1 ≤ h
        · rw [decide_eq_false (show ¬ h ≤ 1024 by omega),Bool.and_false];rfl
        · rw [decide_eq_false d];rfl
      rw [this,j3]
      exact hm
  · rw [if_neg (fun g => c1 g.1)] at hm
    have : (!(decide (1 ≤ w) && decide (w ≤ 1024))) = true := by
      by_cases d : 1 ≤ w
      · rw [decide_eq_false (show ¬ w ≤ 1024 by omega),Bool.and_false];rfl
      · rw [decide_eq_false d];rfl
    rw [this]
    simp only [cond_true]
    rw [j3]
    exact hm
end Cm
end Go.Proofs.Ytelpkjellakigaa
/- The step from a walk to a law's row,once for all laws of the seat: a law that returns true and leaves all that was there as it was. -/
namespace Go.Proofs.Ytelpkjellakigaa
open Go.ChangeShapes Go.WideShapes Go.ChangeAt Go.RowKit

theorem own : ownKnob Try.prog.godebug = none := by kernel_rfl
theorem laidOut : laidOutB Try.prog = true := by kernel_rfl
theorem boolT : Try.prog.underlying 4 = some .bool := Try.underlying4

theorem trodAll_stays {H : Type} {enc : TypeId × Value → H} {P : Program} (hl : laidOutB P = true) {W W' : World} (hb : Below W.heap.size W W') :
    ∀ {ts : List TypeId} {vs : List Value} {ds : List (DataW H)} {ps : List MemPlace},(∀ t ∈ ts,P.readableRec t = true ∧ t < P.types.size) → DataW.TrodAll enc P W 0 (fun _ => true) true ts vs ds ps →
      (∀ x ∈ ps,x.block < W.heap.size) → DataW.TrodAll enc P W' 0 (fun b => decide (b < W.heap.size)) true ts vs ds ps
  | [],[],[],_,_,h,_ => h
  | t :: ts,v :: vs,d :: ds,_,hr,⟨p,q,h1,h2,e⟩,hlt =>
    ⟨p,q,Below.trod hl (hr t (by simp)).1 (hr t (by simp)).2 h1 hb (fun x hx => hlt x (by rw [e];simp [hx])),
      trodAll_stays hl hb (fun t' ht => hr t' (by simp [ht])) h2 (fun x hx => hlt x (by rw [e];simp [hx])),e⟩
  | [],[],_ :: _,_,_,h,_ => h.elim
  | [],_ :: _,_,_,_,h,_ => h.elim
  | _ :: _,[],_,_,_,h,_ => h.elim
  | _ :: _,_ :: _,[],_,_,h,_ => h.elim

/-- what a law's row asks of the readable types among its parameters -/
def readsAll (P : Program) (ts : List TypeId) : Bool := ts.all fun t => P.readableRec t && decide (t < P.types.size)
theorem readsAll_all {P : Program} {ts : List TypeId} (h : readsAll P ts = true) : ∀ t ∈ ts,P.readableRec t = true ∧ t < P.types.size := by
  intro t ht
  have := List.all_eq_true.1 h t ht
  simpa using this

theorem trodAll_length {H : Type} {enc : TypeId × Value → H} {P : Program} {W : World} {base : Nat} {spare : Nat → Bool} {held : Bool} :
    ∀ {ts : List TypeId} {vs : List Value} {ds : List (DataW H)} {ps : List MemPlace},DataW.TrodAll enc P W base spare held ts vs ds ps → ds.length = ts.length
  | [],[],[],_,_ => rfl
  | _ :: _,_ :: _,_ :: _,_,⟨_,_,_,h2,_⟩ => by simp [trodAll_length h2]
  | [],[],_ :: _,_,h => h.elim
  | [],_ :: _,_,_,h => h.elim
  | _ :: _,[],_,_,h => h.elim
  | _ :: _,_ :: _,[],_,h => h.elim

set_option maxRecDepth 100000 in
theorem law_lifted {os : Os} (started : os.Started) {H : Type} {enc : TypeId × Value → H} {f : FuncId} {fn : Func} {s : ChangeSpec}
    (noInit : Try.checked.prog.inits.idxOf? f = none) (hfn : Try.checked.prog.funcs[f]? = some fn)
    (witness : ∃ (w : World) (tape : Tape) (i : Input),w.os = os ∧ (w.forCall tape i).Shaped Try.checked.prog ∧ i.vars = [] ∧ Input.okWide Try.checked.prog (w.forCall tape i) .any w.heap.size f i ∧
      s.pre6 enc Try.checked.prog fn [] false (w.forCall tape i).memory i.args ∧ ({} : Assume).holds Try.checked.prog (lone (Frame.enter Try.checked.prog f i.args .normal) [] (w.forCall tape i)))
    (hvars : s.vars = []) (hres : fn.resultTypes = #[4]) (hread : readsAll Try.prog fn.params.toList = true)
    (hspec : ∀ ds : List (DataW H),ds.length = fn.params.toList.length → s.fn H ds = { results := [.lit (.bool true)],args := ds })
    (walk : ∀ (W : World) (base : Nat) (args : List Value) (ds : List (DataW H)) (ps : List MemPlace),
      (∀ (j : Nat) t v,fn.params[j]? = some t → args[j]? = some v → Value.okWide Try.prog W .any base t v) → DataW.TrodAll enc Try.prog W 0 (fun _ => true) true fn.params.toList args ds ps →
      (DataW.weightsEach Try.prog fn.params.toList ds).all (· ≤ reachBytes) = true → (∀ x ∈ ps,x.block < W.heap.size) →
      Calls Try.prog f args.toArray W fun e W' => e = .returned (.bool true) ∧ Below W.heap.size W W') :
    ReturnsInHanded {} Try.checked os f .any (s.pre6 enc Try.checked.prog fn [] false) (s.post enc Try.checked.prog fn false true false false) := by
  refine returnsInHanded_of_change_sized (C := Try.checked) own started noInit hfn witness ?_
  intro W base args ds gs before hval hW _ hsz _
  have hW' := hW
  obtain ⟨p,q,hA0,hV,rfl,hfz,hnd⟩ := hW
  rw [hvars] at hV
  obtain ⟨rfl,rfl⟩ := trodVars_none hV
  have hA : DataW.TrodAll enc Try.prog W 0 (fun _ => true) true fn.params.toList args.toList ds p := hA0
  have hlen : ds.length = fn.params.toList.length := trodAll_length hA
  have hlt : ∀ x ∈ p,x.block < W.heap.size := fun x hx => hW'.lt x (by simpa using hx)
  have hargs : args.toList.toArray = args := by simp
  have hsz' : (DataW.weightsEach Try.prog fn.params.toList ds).all (· ≤ reachBytes) = true := by
    have h := hsz
    have hvt : s.plain.varTypes Try.checked.prog = [] := by simp [DataSpec.varTypes,ChangeSpec.plain,hvars]
    rw [hvt] at h
    simp only [List.append_nil] at h
    exact h
  have hw := walk W base args.toList ds p (fun j t v ht hv => hval j t v ht (by simpa using hv)) hA hsz' hlt
  rw [hargs] at hw
  refine hw.mono fun e W' ⟨he,hb⟩ => ⟨.bool true,he,?_⟩
  have hsf : s.fn H (ds ++ []) = { results := [.lit (.bool true)],args := ds } := by rw [List.append_nil];exact hspec ds hlen
  refine ⟨ds,[],p ++ [],[],p,[],hW',?_,?_,?_,hb.frame _,fun h => by cases h⟩
  · rw [hsf,hres]
    exact trodAll_mk1 (shut_bool boolT true)
  · rw [hsf]
    exact trodAll_stays laidOut hb (readsAll_all hread) hA hlt
  · rw [hsf,hvars]
    rfl
end Go.Proofs.Ytelpkjellakigaa
/- Arguments opened: what slices and structs of numbers read as. -/
set_option maxRecDepth 100000
namespace Go.Proofs.Ytelpkjellakigaa
open Go.ChangeShapes Go.WideShapes Go.ChangeAt Go.RowKit Go.Deep

theorem choose_list {α : Type} {n : Nat} {Q : Nat → α → Prop} (h : ∀ i,i < n → ∃ p,Q i p) : ∃ l : List α,l.length = n ∧ ∀ i p,l[i]? = some p → Q i p := by
  induction n with
  | zero => exact ⟨[],rfl,by intro i p hi;simp at hi⟩
  | succ n ih =>
    obtain ⟨l,hl,hq⟩ := ih (fun i hi => h i (by omega))
    obtain ⟨p,hp⟩ := h n (by omega)
    refine ⟨l ++ [p],by simp [hl],fun i q hi => ?_⟩
    rcases Nat.lt_trichotomy i n with hlt | rfl | hgt
    · rw [List.getElem?_append_left (by omega)] at hi
      exact hq i q hi
    · rw [List.getElem?_append_right (by omega),hl] at hi
      simp at hi
      subst hi;exact hp
    · rw [List.getElem?_eq_none (by simp;omega)] at hi
      cases hi

section
variable {H : Type} {enc : TypeId × Value → H} {P : Program} {w : World} {base : Nat} {spare : Nat → Bool} {held : Bool}
/-- a slice,whatever its elements: of each element its cells and its reading -/
theorem rd_slice {t e : TypeId} {fuel : Nat} {v : Value} {x : DataW H × List MemPlace} (ht : P.underlying t = some (.slice e)) (hc : 0 < P.cellsOf e) (h : DataW.trod enc P w base spare held fuel t [v] = some x) :
    ∃ A n c,v = .slice A n c ∧ n ≤ c ∧ c ≤ maxLen ∧ ∀ i,i < n → ∃ b o cs n' x',A = some ⟨b,o,none⟩ ∧ cs.length = P.cellsOf e ∧ (∀ j u,cs[j]? = some u → w.cell? ⟨b,o + i * P.cellsOf e + j,none⟩ = some u) ∧
      DataW.trod enc P w base spare held n' e cs = some x' := by
  rcases open_slice ht h with ⟨h0,_⟩ | ⟨a,len,cap,m,n',D,Pl,hcs,_,hl,hm,hmm,_,hi⟩
  · simp at h0
    subst h0
    exact ⟨none,0,0,rfl,by omega,by unfold maxLen;omega,by intro i hi;omega⟩
  · simp at hcs
    subst hcs
    refine ⟨some a,len,cap,rfl,hl,hm,fun i hil => ?_⟩
    have hlm : len ≤ m := by rw [hmm];split <;> omega
    obtain ⟨cs,h1,h2⟩ := hi i (by omega)
    obtain ⟨hb,hlen,hat⟩ := World.cells?_some h1
    obtain ⟨b,o,spot⟩ := a
    have h00 := hat 0 (by omega)
    have hsp : spot = none := by
      obtain ⟨cs0,g1,_⟩ := hi 0 (by omega)
      obtain ⟨_,gl,gat⟩ := World.cells?_some g1
      have hx := gat 0 (by omega)
      rw [List.getElem?_eq_getElem (by omega)] at hx
      simpa [Addr.add] using World.cell?_spot hx
    subst hsp
    refine ⟨b,o,cs,n',_,rfl,hlen,?_,h2⟩
    intro j u hu
    have hjl : j < P.cellsOf e := by rw [← hlen];exact (List.getElem?_eq_some_iff.1 hu).1
    have := hat j hjl
    rw [hu,Addr.add_lit,Addr.add_lit] at this
    exact this
end

end Go.Proofs.Ytelpkjellakigaa
/- Arguments opened,as abstract values. -/
set_option maxRecDepth 100000
namespace Go.Proofs.Ytelpkjellakigaa
open Go Go.ChangeShapes Go.WideShapes Go.ChangeAt Go.RowKit Go.Deep

section
variable {H : Type} {enc : TypeId × Value → H} {P : Program} {w : World} {base : Nat} {spare : Nat → Bool} {held : Bool}
/-- data of the caller's -/
abbrev RelC (w : World) : AV → Value → Prop := RelD w (fun _ => False) w.heap.size
/-- one element's cells,read as enc p -/
def Reads {α : Type} (w : World) (sz : Nat) (ec : α → List AV) (Q : α → Prop) (cs : List Value) : Prop :=
  ∃ p,Q p ∧ (ec p).length = sz ∧ ∀ (j : Nat) (a : AV) (u : Value),(ec p)[j]? = some a → cs[j]? = some u → RelC w a u
theorem ro_slice {α : Type} (ec : α → List AV) (Q : α → Prop) {t e : TypeId} {sz fuel : Nat} {v : Value} {x : DataW H × List MemPlace} (ht : P.underlying t = some (.slice e)) (hz : P.cellsOf e = sz) (hc : 0 < sz)
    (hel : ∀ (fuel : Nat) (cs : List Value) (x : DataW H × List MemPlace),cs.length = sz → DataW.trod enc P w base spare held fuel e cs = some x → Reads w sz ec Q cs) (h : DataW.trod enc P w base spare held fuel t [v] = some x) :
    ∃ xs : List α,(∀ p ∈ xs,Q p) ∧ RelC w (.ro false sz (xs.map ec)) v := by
  subst hz
  obtain ⟨A,n,c,rfl,hn,hm,hi⟩ := rd_slice ht hc h
  obtain ⟨xs,hl,hq⟩ := choose_list (Q := fun i (p : α) => Q p ∧ ∃ (b o : Nat) (cs : List Value),A = some ⟨b,o,none⟩ ∧ cs.length = P.cellsOf e ∧ (∀ (j : Nat) (u : Value),cs[j]? = some u → w.cell? ⟨b,o + i * P.cellsOf e + j,none⟩ = some u) ∧ (ec p).length = P.cellsOf e ∧ ∀ (j : Nat) (a : AV) (u : Value),(ec p)[j]? = some a → cs[j]? = some u → RelC w a u) (n := n) (by
    intro i hil
    obtain ⟨b,o,cs,n',x',hA,hlen,hat,htr⟩ := hi i hil
    obtain ⟨p,h1,h2,h3⟩ := hel n' cs x' hlen htr
    exact ⟨p,h1,b,o,cs,hA,hlen,hat,h2,h3⟩)
  subst hl
  refine ⟨xs,fun p hp => ?_,?_⟩
  · obtain ⟨i,hi⟩ := List.mem_iff_getElem?.1 hp
    exact (hq i p hi).1
  have key : ∀ (i : Nat) (row : List AV) (j : Nat) (a : AV),(xs.map ec)[i]? = some row → row[j]? = some a → ∃ b o u,A = some ⟨b,o,none⟩ ∧ w.cell? ⟨b,o + i * P.cellsOf e + j,none⟩ = some u ∧ RelC w a u := by
    intro i row j a hr ha
    rw [List.getElem?_map] at hr
    obtain ⟨p,hp,rfl⟩ := Option.map_eq_some_iff.1 hr
    obtain ⟨_,b,o,cs,hA,hlen,hat,hel,hrel⟩ := hq i p hp
    have hj : j < cs.length := by rw [hlen,← hel];exact (List.getElem?_eq_some_iff.1 ha).1
    have hu : cs[j]? = some cs[j] := List.getElem?_eq_getElem hj
    exact ⟨b,o,cs[j],hA,hat j _ hu,hrel j a _ ha hu⟩
  have hcon := RelD.ro (w := w) (own := fun _ => False) (bs := w.heap.size) false (P.cellsOf e) (xs.map ec) A c (fun i j => match A with
    | some ⟨b,o,_⟩ => (w.cell? ⟨b,o + i * P.cellsOf e + j,none⟩).getD undef
    | none => undef) (by simpa using hn) hm (fun i hi hA => by
      have hi : i < xs.length := by simpa using hi
      obtain ⟨_,b,o,_,h1,_⟩ := hq i xs[i] (List.getElem?_eq_getElem hi)
      rw [hA] at h1;cases h1) (fun i row j a hr ha => by
      obtain ⟨b,o,u,hA,hu,_⟩ := key i row j a hr ha
      subst hA
      exact ⟨b,o,rfl,fun h => h.elim,(fun h => by cases h),by simp [hu]⟩) (fun i row j a hr ha => by
      obtain ⟨b,o,u,hA,hu,hr⟩ := key i row j a hr ha
      subst hA
      simpa [hu] using hr)
  rw [List.length_map] at hcon
  exact hcon
end
/-- a law that answers true -/
theorem AF.yes {P : Program} {F : FuncId} {xs : List AV} {vs : Array Value} {w : World} (h : AF P F xs (.bool true)) (ha : ArgsV w (Gh.none w.heap.size) xs vs) : Calls P F vs w fun e w' => e = .returned (.bool true) ∧ Below w.heap.size w w' :=
  (h.out w vs ha).mono fun e w' ⟨v,he,hb,hv⟩ => ⟨by rw [he,hv.bool'],hb⟩
end Go.Proofs.Ytelpkjellakigaa
/- Arguments of any type,opened by one theorem;the last step of a law that a residual program answers. -/
set_option maxRecDepth 100000
namespace Go.Proofs.Ytelpkjellakigaa
open Go Go.ChangeShapes Go.WideShapes Go.ChangeAt Go.RowKit Go.Deep

/-- what every argument of a type meets -/
def Ty.wf : (t : Ty) → t.den → Prop
  | .int k,n => (Lit.int k n).wf = true
  | .bool,_ => True
  | .str,s => List.length s ≤ maxLen
  | .list t,xs => List.length xs ≤ maxLen ∧ ∀ x ∈ (xs : List t.den),t.wf x
  | .unit,_ => True
  | .pair a b,x => a.wf x.1 ∧ b.wf x.2
  | .agg t,x => t.wf x
  | .ptr _,_ => False
def prB (t : Ty) (f : Ty → Ty → Bool) : Bool := match t with
  | .pair x y => f x y
  | _ => false
def unB (t : Ty) : Bool := match t with
  | .unit => true
  | _ => false
theorem prB_ok {t : Ty} {f : Ty → Ty → Bool} (h : prB t f = true) : ∃ x y,t = .pair x y ∧ f x y = true := by
  unfold prB at h
  split at h
  · exact ⟨_,_,rfl,h⟩
  · cases h
theorem unB_ok {t : Ty} (h : unB t = true) : t = .unit := by
  unfold unB at h
  split at h
  · rfl
  · cases h
def fsB (g : TypeId → Ty → Bool) : List Field → Nat → Ty → Bool
  | [],_,t => unB t
  | [a],o,t => Nat.beq a.offset o && g a.type t
  | a :: b :: l,o,t => prB t fun x y => Nat.beq a.offset o && g a.type x && fsB g (b :: l) (o + x.size) y
def arB (g : Ty → Bool) : Nat → Ty → Bool
  | 0,t => unB t
  | 1,t => g t
  | n + 2,t => prB t fun x y => g x && arB g (n + 1) y
def intB (k : IntKind) (t : Ty) : Bool := match t with
  | .int k' => decide (k' = k)
  | _ => false
def boolB (t : Ty) : Bool := match t with
  | .bool => true
  | _ => false
def strB (t : Ty) : Bool := match t with
  | .str => true
  | _ => false
def sliceB (g : Ty → Bool) (t : Ty) : Bool := match t with
  | .list t' => g t' && Nat.blt 0 t'.size
  | _ => false
/-- a type as the program has it -/
def tyB (P : Program) : Nat → TypeId → Ty → Bool
  | 0,_,_ => false
  | f + 1,tid,t => Nat.beq (P.cellsOf tid) t.size && (match P.underlying tid with
    | some (.int k) => intB k t
    | some .bool => boolB t
    | some .string => strB t
    | some (.slice e) => sliceB (tyB P f e) t
    | some (.struct ⟨fs⟩) => fsB (tyB P f) fs 0 t
    | some (.array n e) => arB (tyB P f e) n t
    | _ => false)
section
variable {H : Type} {enc : TypeId × Value → H} {P : Program} {w : World} {base : Nat} {spare : Nat → Bool} {held : Bool}
abbrev ReadsT (w : World) (t : Ty) (cs : List Value) : Prop := Reads w t.size (t.cells false) t.wf cs
theorem tyB_size {f : Nat} {tid : TypeId} {t : Ty} (h : tyB P f tid t = true) : P.cellsOf tid = t.size := by
  cases f with
  | zero => cases h
  | succ f => rw [tyB,Bool.and_eq_true] at h;exact Nat.eq_of_beq_eq_true h.1
theorem ReadsT.pair {a b : Ty} {c d : List Value} (h : ReadsT w a c) (k : ReadsT w b d) (hl : c.length = a.size) : ReadsT w (.pair a b) (c ++ d) := by
  obtain ⟨x,x1,x2,x3⟩ := h
  obtain ⟨y,y1,y2,y3⟩ := k
  refine ⟨(x,y),⟨x1,y1⟩,Ty.cells_length _ _ _,fun j v u hv hu => ?_⟩
  rw [Ty.cells] at hv
  by_cases hj : j < a.size
  · rw [List.getElem?_append_left (by rw [x2];exact hj)] at hv
    rw [List.getElem?_append_left (by omega)] at hu
    exact x3 j v u hv hu
  · rw [List.getElem?_append_right (by rw [x2];omega),x2] at hv
    rw [List.getElem?_append_right (by omega),hl] at hu
    exact y3 _ v u hv hu
theorem ReadsT.unit : ReadsT w .unit [] := ⟨(),trivial,rfl,fun j a u h _ => by simp [Ty.cells] at h⟩
theorem fs_reads {g : TypeId → Ty → Bool} (hg : ∀ (tid : TypeId) (t : Ty) (n : Nat) (cs : List Value) (x : DataW H × List MemPlace),g tid t = true → cs.length = t.size → DataW.trod enc P w base spare held n tid cs = some x → ReadsT w t cs) (hsz : ∀ tid t,g tid t = true → P.cellsOf tid = t.size) {cs : List Value} :
    ∀ (l : List Field) (o : Nat) (t : Ty),fsB g l o t = true → (∀ a ∈ l,∃ n y,DataW.trod enc P w base spare held n a.type ((cs.drop a.offset).take (P.cellsOf a.type)) = some y) → o + t.size ≤ cs.length → ReadsT w t ((cs.drop o).take t.size)
  | [],o,t,h,_,_ => by
    rw [unB_ok h,show Ty.unit.size = 0 from rfl,List.take_zero];exact .unit
  | [a],o,t,h,hr,hl => by
    rw [fsB,Bool.and_eq_true] at h
    obtain ⟨n,y,hy⟩ := hr a (by simp)
    rw [Nat.eq_of_beq_eq_true h.1,hsz _ _ h.2] at hy
    exact hg _ _ n _ y h.2 (by rw [List.length_take,List.length_drop];omega) hy
  | a :: b :: l,o,t,h,hr,hl => by
    obtain ⟨x,y,rfl,h'⟩ := prB_ok h
    clear h
    have h := h'
    clear h'
    rw [Bool.and_eq_true,Bool.and_eq_true] at h
    obtain ⟨n,z,hz⟩ := hr a (by simp)
    rw [Nat.eq_of_beq_eq_true h.1.1,hsz _ _ h.1.2] at hz
    have hs : (Ty.pair x y).size = x.size + y.size := rfl
    rw [hs] at hl
    have h1 := hg _ _ n _ z h.1.2 (by rw [List.length_take,List.length_drop];omega) hz
    have h2 := fs_reads hg hsz (b :: l) (o + x.size) y h.2 (fun a ha => hr a (List.mem_cons_of_mem _ ha)) (by omega)
    rw [hs,List.take_add,List.drop_drop]
    exact h1.pair h2 (by rw [List.length_take,List.length_drop];omega)
theorem ar_reads {g : Ty → Bool} {e : TypeId} (hg : ∀ (t : Ty) (n : Nat) (cs : List Value) (x : DataW H × List MemPlace),g t = true → cs.length = t.size → DataW.trod enc P w base spare held n e cs = some x → ReadsT w t cs) (hsz : ∀ t,g t = true → P.cellsOf e = t.size) {cs : List Value} :
    ∀ (k o : Nat) (t : Ty),arB g k t = true → (∀ i,i < k → ∃ n y,DataW.trod enc P w base spare held n e ((cs.drop (o + i * P.cellsOf e)).take (P.cellsOf e)) = some y) → o + t.size ≤ cs.length → ReadsT w t ((cs.drop o).take t.size)
  | 0,o,t,h,_,_ => by
    rw [unB_ok h,show Ty.unit.size = 0 from rfl,List.take_zero];exact .unit
  | 1,o,t,h,hr,hl => by
    rw [arB] at h
    obtain ⟨n,y,hy⟩ := hr 0 (by omega)
    rw [hsz _ h,Nat.zero_mul,Nat.add_zero] at hy
    exact hg _ n _ y h (by rw [List.length_take,List.length_drop];omega) hy
  | k + 2,o,t,h,hr,hl => by
    obtain ⟨x,y,rfl,h'⟩ := prB_ok h
    clear h
    have h := h'
    clear h'
    rw [Bool.and_eq_true] at h
    obtain ⟨n,z,hz⟩ := hr 0 (by omega)
    rw [hsz _ h.1,Nat.zero_mul,Nat.add_zero] at hz
    have hs : (Ty.pair x y).size = x.size + y.size := rfl
    rw [hs] at hl
    have h1 := hg _ n _ z h.1 (by rw [List.length_take,List.length_drop];omega) hz
    have h2 := ar_reads hg hsz (k + 1) (o + x.size) y h.2 (fun i hi => by
      obtain ⟨n,z,hz⟩ := hr (i + 1) (by omega)
      refine ⟨n,z,?_⟩
      rw [← hz,← hsz _ h.1,Nat.add_mul,Nat.one_mul,Nat.add_assoc,Nat.add_comm (P.cellsOf e)]) (by omega)
    rw [hs,List.take_add,List.drop_drop]
    exact h1.pair h2 (by rw [List.length_take,List.length_drop];omega)
theorem ro_len {own : Nat → Prop} {bs sz : Nat} {fr : Bool} {rows : List (List AV)} {v : Value} (h : RelD w own bs (.ro fr sz rows) v) : rows.length ≤ maxLen := by
  cases h with
  | ro fr sz rows A c f hc hm h0 h1 h2 => omega
theorem one_cell {cs : List Value} (h : cs.length = 1) : ∃ u,cs = [u] := by match cs,h with | [u],_ => exact ⟨u,rfl⟩
theorem reads_ty : ∀ (f : Nat) (tid : TypeId) (t : Ty) (n : Nat) (cs : List Value) (x : DataW H × List MemPlace),tyB P f tid t = true → cs.length = t.size → DataW.trod enc P w base spare held n tid cs = some x → ReadsT w t cs
  | 0,_,_,_,_,_,h,_,_ => by cases h
  | f + 1,tid,t,n,cs,x,h,hl,hx => by
    have hsize := tyB_size h
    rw [tyB,Bool.and_eq_true] at h
    obtain ⟨_,h⟩ := h
    split at h
    · rename_i k hu
      unfold intB at h
      split at h
      · have hk := of_decide_eq_true h
        subst hk
        obtain ⟨m,rfl,_,hwf⟩ := DataW.trod_int hu hx
        refine ⟨m,hwf,rfl,fun j a u ha hu => ?_⟩
        match j with
        | 0 => simp [Ty.cells] at ha hu;subst ha;subst hu;exact .int _ _
        | j + 1 => simp [Ty.cells] at ha
      · cases h
    · rename_i hu
      unfold boolB at h
      split at h
      · obtain ⟨m,rfl,_⟩ := DataW.trod_bool hu hx
        refine ⟨m,trivial,rfl,fun j a u ha hu => ?_⟩
        match j with
        | 0 => simp [Ty.cells] at ha hu;subst ha;subst hu;exact .bool _
        | j + 1 => simp [Ty.cells] at ha
      · cases h
    · rename_i hu
      unfold strB at h
      split at h
      · obtain ⟨s,rfl,_,hs⟩ := DataW.trod_string hu hx
        refine ⟨s.data.toList,by rw [Ty.wf,Array.length_toList];exact hs,rfl,fun j a u ha hu => ?_⟩
        match j with
        | 0 => simp [Ty.cells] at ha hu;subst ha;subst hu;exact .str _
        | j + 1 => simp [Ty.cells] at ha
      · cases h
    · rename_i e hu
      unfold sliceB at h
      split at h
      · rename_i _ t' _
        rw [Bool.and_eq_true] at h
        have hpos : 0 < t'.size := Nat.le_of_ble_eq_true h.2
        obtain ⟨v,rfl⟩ := one_cell hl
        obtain ⟨xs,hw,hr⟩ := ro_slice (t'.cells false) t'.wf hu (tyB_size h.1) hpos (fun m cs x hl hx => reads_ty f e t' m cs x h.1 hl hx) hx
        refine ⟨xs,⟨?_,hw⟩,rfl,fun j a u ha hu => ?_⟩
        · have := ro_len hr
          rw [List.length_map] at this
          exact this
        match j with
        | 0 => simp [Ty.cells] at ha hu;subst ha;subst hu;exact hr
        | j + 1 => simp [Ty.cells] at ha
      · cases h
    · rename_i fs hu
      obtain ⟨xs,m,_,_,_,hxl,hat⟩ := DataW.trod_struct hu hx
      have := fs_reads (cs := cs) (fun tid t n cs x h1 h2 h3 => reads_ty f tid t n cs x h1 h2 h3) (fun tid t h => tyB_size h) fs 0 t h (fun a ha => by
        obtain ⟨i,hi⟩ := List.mem_iff_getElem?.1 ha
        have hi' : i < xs.length := by rw [hxl];exact (List.getElem?_eq_some_iff.1 hi).1
        exact ⟨m,_,by rw [hat i a (by simpa using hi),List.getElem?_eq_getElem hi']⟩) (by omega)
      rw [List.drop_zero,List.take_of_length_le (by omega)] at this
      exact this
    · rename_i k e hu
      obtain ⟨xs,m,_,_,_,hxl,hat⟩ := DataW.trod_array hu hx
      have := ar_reads (cs := cs) (e := e) (fun t n cs x h1 h2 h3 => reads_ty f e t n cs x h1 h2 h3) (fun t h => tyB_size h) k 0 t h (fun i hi => by
        have hi' : i < xs.length := by rw [hxl];exact hi
        exact ⟨m,_,by rw [Nat.zero_add,hat i hi,List.getElem?_eq_getElem hi']⟩) (by omega)
      rw [List.drop_zero,List.take_of_length_le (by omega)] at this
      exact this
    · cases h
/-! ### Arguments -/
def aggP (P : Program) (tid : TypeId) : Bool := match P.underlying tid with
  | some (.struct _) => true
  | some (.array _ _) => true
  | _ => false
def cellP (P : Program) (tid : TypeId) : Bool := match P.underlying tid with
  | some (.int _) => true
  | some .bool => true
  | some .string => true
  | some (.slice _) => true
  | _ => false
def argB (P : Program) (tid : TypeId) (a : Ty) : Bool := match a with
  | .agg t => tyB P 9 tid t && aggP P tid
  | .int k => tyB P 9 tid (.int k) && cellP P tid
  | .bool => tyB P 9 tid .bool && cellP P tid
  | .str => tyB P 9 tid .str && cellP P tid
  | .list t => tyB P 9 tid (.list t) && cellP P tid
  | _ => false
def argsB (P : Program) : List TypeId → Ty → Bool
  | [],t => unB t
  | tid :: l,t => prB t fun a b => argB P tid a && argsB P l b
theorem okWide_arr {n b : Nat} {r : Go.Reach} {t e : TypeId} {v : Value} (ht : P.underlying t = some (.array n e)) (h : Value.okWide P w r b t v) : ∃ cs,v = .agg cs ∧ cs.size = P.cellsOf t := by
  simp only [Value.okWide,ht] at h
  obtain ⟨cs,h1,h2,_⟩ := h
  exact ⟨cs,h1,h2⟩
theorem arg_agg {tid : TypeId} {t : Ty} {v : Value} {d : DataW H} {p : List MemPlace} {b : Nat} (h : tyB P 9 tid t = true) (ha : aggP P tid = true) (hv : Value.okWide P w .any b tid v) (hd : DataW.Trod enc P w base spare held tid v d p) : ∃ x : t.den,t.wf x ∧ RelV w (Gh.none w.heap.size) (.agg (t.cells false x)) v := by
  obtain ⟨cs,rfl,hs⟩ : ∃ cs,v = .agg cs ∧ cs.size = P.cellsOf tid := by
    unfold aggP at ha
    split at ha
    · rename_i h1;exact okWide_struct h1 hv
    · rename_i h1;exact okWide_arr h1 hv
    · cases ha
  obtain ⟨n,hd⟩ := hd
  have hl : cs.toList.length = t.size := by rw [← tyB_size h,← hs];simp
  obtain ⟨x,x1,x2,x3⟩ := reads_ty 9 tid t n cs.toList _ h hl hd
  exact ⟨x,x1,.agg _ _ (by rw [x2,← hl];simp) fun i a u ha hu => .dat (x3 i a u ha (by simpa using hu))⟩
theorem arg_cell {tid : TypeId} {t : Ty} {v : Value} {d : DataW H} {p : List MemPlace} {b : Nat} (h : tyB P 9 tid t = true) (hc : cellP P tid = true) (h1 : t.size = 1) (hv : Value.okWide P w .any b tid v) (hd : DataW.Trod enc P w base spare held tid v d p) : ∃ x : t.den,t.wf x ∧ ∀ a,(t.cells false x)[0]? = some a → RelV w (Gh.none w.heap.size) a v := by
  have hd : ∃ n,DataW.trod enc P w base spare held n tid [v] = some (d,p) := by
    unfold cellP at hc
    split at hc
    · rename_i hu
      obtain ⟨m,rfl⟩ := okWide_int hu hv
      exact hd
    · rename_i hu
      obtain ⟨m,rfl⟩ := okWide_bool hu hv
      exact hd
    · rename_i hu
      obtain ⟨m,rfl⟩ := okWide_string hu hv
      exact hd
    · rename_i hu
      obtain ⟨a,n,c,rfl⟩ := okWide_slice hu hv
      exact hd
    · cases hc
  obtain ⟨n,hd⟩ := hd
  obtain ⟨x,x1,x2,x3⟩ := reads_ty 9 tid t n [v] _ h (by rw [h1];rfl) hd
  exact ⟨x,x1,fun a ha => .dat (x3 0 a v ha rfl)⟩
theorem arg_ty {tid : TypeId} {v : Value} {d : DataW H} {p : List MemPlace} {b : Nat} : ∀ {a : Ty},argB P tid a = true → Value.okWide P w .any b tid v → DataW.Trod enc P w base spare held tid v d p → ∃ x : a.den,a.wf x ∧ RelV w (Gh.none w.heap.size) (a.av false x) v
  | .agg t,h,hv,hd => by
    rw [argB,Bool.and_eq_true] at h
    obtain ⟨x,h1,h2⟩ := arg_agg h.1 h.2 hv hd
    exact ⟨x,h1,by rw [Ty.av];exact h2⟩
  | .int k,h,hv,hd => by
    rw [argB,Bool.and_eq_true] at h
    obtain ⟨x,h1,h2⟩ := arg_cell h.1 h.2 rfl hv hd
    exact ⟨x,h1,h2 _ rfl⟩
  | .bool,h,hv,hd => by
    rw [argB,Bool.and_eq_true] at h
    obtain ⟨x,h1,h2⟩ := arg_cell h.1 h.2 rfl hv hd
    exact ⟨x,h1,h2 _ rfl⟩
  | .str,h,hv,hd => by
    rw [argB,Bool.and_eq_true] at h
    obtain ⟨x,h1,h2⟩ := arg_cell h.1 h.2 rfl hv hd
    exact ⟨x,h1,h2 _ rfl⟩
  | .list t,h,hv,hd => by
    rw [argB,Bool.and_eq_true] at h
    obtain ⟨x,h1,h2⟩ := arg_cell h.1 h.2 rfl hv hd
    exact ⟨x,h1,h2 _ rfl⟩
  | .unit,h,_,_ => by cases h
  | .pair _ _,h,_,_ => by cases h
  | .ptr _,h,_,_ => by cases h
/-- values one by one -/
inductive RelsV (w : World) (G : Gh) : List AV → List Value → Prop
  | nil : RelsV w G [] []
  | cons {a : AV} {v : Value} {l : List AV} {m : List Value} (h : RelV w G a v) (k : RelsV w G l m) : RelsV w G (a :: l) (v :: m)
theorem RelsV.args {G : Gh} {l : List AV} {m : List Value} (h : RelsV w G l m) : ArgsV w G l m.toArray := by
  induction h with
  | nil => exact ⟨rfl,fun i a v ha hv => by simp at ha⟩
  | cons h k ih =>
    refine ⟨by have := ih.size;simp at this ⊢;exact this,fun i a v ha hv => ?_⟩
    cases i with
    | zero => simp at ha hv;subst ha;subst hv;exact h
    | succ i => exact ih.rel i a v (by simpa using ha) (by simpa using hv)
theorem args_ty {b : Nat} : ∀ {ts : List TypeId} {σ : Ty} {vs : List Value} {ds : List (DataW H)} {ps : List MemPlace},argsB P ts σ = true → (∀ (j : Nat) t v,ts[j]? = some t → vs[j]? = some v → Value.okWide P w .any b t v) → DataW.TrodAll enc P w base spare held ts vs ds ps → ∃ x : σ.den,σ.wf x ∧ RelsV w (Gh.none w.heap.size) (σ.avs false x) vs
  | [],σ,vs,ds,ps,h,_,hA => by
    obtain ⟨rfl,rfl,rfl⟩ := trodAll_nil hA
    have e := unB_ok h
    subst e
    exact ⟨(),trivial,.nil⟩
  | tid :: l,σ,vs,ds,ps,h,hv,hA => by
    obtain ⟨v,vs,d,ds,p,q,rfl,rfl,rfl,h0,r0⟩ := trodAll_cons hA
    obtain ⟨a,c,rfl,h'⟩ := prB_ok h
    clear h
    have h := h'
    clear h'
    rw [Bool.and_eq_true] at h
    obtain ⟨x,x1,x2⟩ := arg_ty h.1 (hv 0 tid v rfl rfl) h0
    obtain ⟨y,y1,y2⟩ := args_ty h.2 (fun j t u ht hu => hv (j + 1) t u (by simpa using ht) (by simpa using hu)) r0
    exact ⟨(x,y),⟨x1,y1⟩,by rw [Ty.avs];exact .cons x2 y2⟩
end
/-- a law whose residual program answers true at all data -/
theorem law_any {H : Type} {enc : TypeId × Value → H} {F : Nat} {ts : List TypeId} {σ : Ty} {f : Nat → σ.den → Option (Bool × Unit)} {nm : Nat} (hc : CtrOk Try.prog F ⟨σ,.pair .bool .unit,f,nm⟩) (hB : argsB Try.prog ts σ = true) (hp : ∀ x : σ.den,σ.wf x → f FU x = some (true,())) {W : World} {b : Nat} {args : List Value} {ds : List (DataW H)} {ps : List MemPlace}
    (hv : ∀ (j : Nat) t v,ts[j]? = some t → args[j]? = some v → Value.okWide Try.prog W .any b t v) (hA : DataW.TrodAll enc Try.prog W 0 (fun _ => true) true ts args ds ps) :
    Calls Try.prog F args.toArray W fun e W' => e = .returned (.bool true) ∧ Below W.heap.size W W' := by
  obtain ⟨x,hx,hr⟩ := args_ty hB hv hA
  exact AF.yes (hc FU x (true,()) (hp x hx)) hr.args
end Go.Proofs.Ytelpkjellakigaa
/- Bytes of a bitmap that is an argument. -/
namespace Go.Proofs.Ytelpkjellakigaa
open Go
namespace Cm
theorem wf_u8 {x : Int} (h : (Lit.int .u8 x).wf = true) : 0 ≤ x ∧ x ≤ 255 := by
  unfold Lit.wf at h
  simpa [IntKind.min,IntKind.max,IntKind.signed,IntKind.bits] using h
theorem wfB {l : List Int} (h : ∀ x ∈ l,(Lit.int .u8 x).wf = true) : Bytes l := fun d hd => wf_u8 (h d hd)
end Cm
end Go.Proofs.Ytelpkjellakigaa
/- A call that leaves no other goroutine: the sentence about those that are only leaving. No program in sight. -/
namespace Go.Proofs.Ytelpkjellakigaa
open Go
theorem quiet_leaving {P : Program} {m : Machine} (h : m.quiet) : m.OnlyLeaving P := by
  obtain ⟨h1,h2⟩ := h
  refine ⟨fun g hg => ⟨0,?_⟩,h2⟩
  unfold Machine.othersDone at h1
  have h3 := List.all_eq_true.1 h1 g hg
  exact eq_of_beq h3
theorem leaving_of_handed {a : Go.Assume} {C : Go.Checked} {os : Go.Os} {f : FuncId} {r : Go.Reach} {Pre : World → Array Value → Prop} {Post : World → Array Value → Value → World → Prop}
    (h : ReturnsInHanded a C os f r Pre Post) : ReturnsInLeavingWide a C os f r Pre Post := fun enter => by
  obtain ⟨e1,own,started,wit,runs⟩ := h enter
  refine ⟨e1,own,started,wit,fun w tape i hi => ?_⟩
  obtain ⟨N,v,w',h1,h2,h3,h4,⟨M,last,g1,g2,q,ho,eh⟩,h6⟩ := runs w tape i hi
  exact ⟨N,v,w',h1,h2,h3,h4,⟨M,last,g1,g2,ho,quiet_leaving q,eh⟩,h6⟩
end Go.Proofs.Ytelpkjellakigaa
/- CameraSurroundings: for every input this law returns true and leaves its arguments as they were. -/
namespace Go.Proofs.Ytelpkjellakigaa
open Go.ChangeShapes Go.WideShapes Go.ChangeAt Go.RowKit

set_option maxRecDepth 100000 in
theorem cameraSurroundings_lifted (os : Os) (started : os.Started) (H : Type) (enc : TypeId × Value → H) :
    ReturnsInHanded {} Try.checked os 12 .any (Rows.cameraSurroundingsSpec.pre6 enc Try.prog Try.f12 Rows.cameraSurroundingsRow.domain false) (Rows.cameraSurroundingsSpec.post enc Try.prog Try.f12 false true false false) := by
  refine law_lifted started (by kernel_rfl) Try.func12
    (ChangeSpec.witness6 (enc := enc) (C := Try.checked) false ⟨#[],#[.agg #[.int .i64 0,.int .i64 0,.slice none 0 0],.int .i64 0,.int .i64 0],[]⟩ 8 (by kernel_rfl) (by kernel_rfl) (by kernel_rfl) (by kernel_rfl)) rfl rfl (by kernel_rfl)
    (fun ds h => by rw [Try.params12] at h;match ds,h with | [_,_,_],_ => rfl) ?_
  intro W base args ds ps hval hA hsz hlt
  rw [Try.params12] at hA hval
  exact law_any law_CameraSurroundings_ok (by kernel_rfl) ((fun x hx => Cm.cameraSurroundings_r (Nat.le_of_eq FU_val.symm) x.1.1 x.1.2.1 x.2.1 x.2.2.1 (Cm.wfB hx.1.2.2.2) rfl)) (fun j t v ht hv => hval j t v (by simpa using ht) hv) hA

theorem cameraSurroundings_holds : Rows.CameraSurroundingsSaid :=
  OpenClaim.holds_of_wide_leaving 12 Try.f12 rfl rfl rfl rfl rfl rfl rfl ⟨rfl,rfl,rfl,rfl,rfl⟩ rfl rfl rfl rfl rfl (by kernel_rfl) Try.func12 (by kernel_rfl)
    (of_decide_eq_true (by kernel_rfl)) (by unfold Func.isWrapper;first | (rw [if_pos (by decide +kernel)];kernel_rfl) | (rw [if_neg (by decide +kernel)];exact ⟨rfl,rfl⟩))
    (fun os started H enc _ => leaving_of_handed (cameraSurroundings_lifted os started H enc))
end Go.Proofs.Ytelpkjellakigaa
