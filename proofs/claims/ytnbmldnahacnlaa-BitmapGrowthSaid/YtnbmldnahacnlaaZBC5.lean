/- BitmapGrowth: for every input this law returns true and leaves its arguments as they were. -/
import Derived.Test.YtnbmldnahacnlaaZBC4
import Derived.RangeFuncNested
import Derived.RangeFuncBound
import Derived.RangeFuncCalls
import Derived.RangeFuncLeaves
import Derived.RangeFuncBox
import Derived.Shelf.Abstract
import Derived.Shelf.RegionOpen
import Derived.WalkKit
import Derived.OwnWalkIn
import Derived.TacticsInMore
import Derived.LoopNIn
import Derived.LoopIn
import Derived.Maps.AppendAt
import Derived.Test.YtnbmldnahacnlaaRows
import Derived.ProofKit
import Derived.SizedLaws
import Derived.BigQuiet
import Derived.Deep.QuietTactic
import Derived.Deep.Slices
import Derived.OpenShut
/- bitmap.Runs: what a bitmap in memory is; bitmap.Is as the walks take it; bitmap.Row. -/
namespace Go.Proofs.Ytnbmldnahacnlaa
open Go Go.RowKit Go.Shelf
attribute [local go_sem] Oper.semAt_some

/-- a bitmap in a box -/
structure Pic (w h : Int) (ds : List Int) (Bb n0 : Nat) (W : World) : Prop where
  c0 : W.cell? ⟨Bb, 0, none⟩ = some (.int .i64 w)
  c1 : W.cell? ⟨Bb, 1, none⟩ = some (.int .i64 h)
  sl : ∃ A c, W.cell? ⟨Bb, 2, none⟩ = some (.slice A ds.length c) ∧ ds.length ≤ c ∧ c ≤ maxLen ∧ (∀ i, i < ds.length → A ≠ none) ∧
    ∀ (i : Nat) (v : Int), ds[i]? = some v → ∃ b o, A = some ⟨b, o, none⟩ ∧ b < n0 ∧ W.cell? ⟨b, o + i, none⟩ = some (.int .u8 v)
section
variable {w h : Int} {ds : List Int} {Bb n0 : Nat} {W W' : World}
theorem Pic.kept {row : Option Nat} (p : Pic w h ds Bb n0 W) (hg : W.grownBy W' row) (hr : ∀ r, row = some r → ∃ o : Obj, W.heap[r]? = some o ∧ o.isCells = false) : Pic w h ds Bb n0 W' := by
  obtain ⟨A, c, h1, h2, h3, h4, h5⟩ := p.sl
  refine ⟨Go.cell_kept p.c0 hg hr, Go.cell_kept p.c1 hg hr, A, c, Go.cell_kept h1 hg hr, h2, h3, h4, fun i v hv => ?_⟩
  obtain ⟨b, o, e1, e0, e2⟩ := h5 i v hv
  exact ⟨b, o, e1, e0, Go.cell_kept e2 hg hr⟩
theorem grown_of_below (hb : Below W.heap.size W W') : W.grownBy W' none := ⟨hb.os, hb.tape, hb.output, hb.size, fun k hk _ => hb.block k hk⟩
/-- what a round of the caller's loop keeps -/
def Kp3 (n0 Bb B1 B2 : Nat) (A B : World) : Prop := Below n0 A B ∧ ∀ b, (b = Bb ∨ b = B1 ∨ b = B2) → B.heap[b]? = A.heap[b]?
theorem Pic.keep3 {B1 B2 : Nat} (p : Pic w h ds Bb n0 W) (hk : Kp3 n0 Bb B1 B2 W W') : Pic w h ds Bb n0 W' := by
  obtain ⟨A, c, h1, h2, h3, h4, h5⟩ := p.sl
  have e := hk.2 Bb (.inl rfl)
  refine ⟨(World.cell?_of_block (a := ⟨Bb, 0, none⟩) e).trans p.c0, (World.cell?_of_block (a := ⟨Bb, 1, none⟩) e).trans p.c1, A, c, (World.cell?_of_block (a := ⟨Bb, 2, none⟩) e).trans h1, h2, h3, h4, fun i v hv => ?_⟩
  obtain ⟨b, o, e1, e0, e2⟩ := h5 i v hv
  exact ⟨b, o, e1, e0, (hk.1.cell (p := ⟨b, o + i, none⟩) e0).trans e2⟩
theorem keepIs {b : Nat} {v : Value} (hk : W.cell? ⟨b, 0, none⟩ = some v) (hb : Below W.heap.size W W') : W'.cell? ⟨b, 0, none⟩ = some v := Go.cell_kept hk (grown_of_below hb) (fun r e => by cases e)
theorem keepIs1 {b o : Nat} {v : Value} (hk : W.cell? ⟨b, o, none⟩ = some v) (hb : Below W.heap.size W W') : W'.cell? ⟨b, o, none⟩ = some v := Go.cell_kept hk (grown_of_below hb) (fun r e => by cases e)
theorem Pic.is (p : Pic w h ds Bb n0 W) (hb : Below W.heap.size W W') : Pic w h ds Bb n0 W' := p.kept (grown_of_below hb) (fun r e => by cases e)
theorem Pic.rel (p : Pic w h ds Bb n0 W) : RelV W (Gh.none W.heap.size) (.peek (Ty.cells false (.pair (.int .i64) (.pair (.int .i64) (.list (.int .u8)))) (w, (h, ds))) 0) (.pointer (some ⟨Bb, 0, none⟩)) := by
  obtain ⟨A, c, h1, h2, h3, h4, h5⟩ := p.sl
  have hro : RelD W (Gh.none W.heap.size).own (Gh.none W.heap.size).bs (.ro false 1 (ds.map (Ty.cells false (.int .u8)))) (.slice A ds.length c) := by
    have hl : (ds.map (Ty.cells false (.int .u8))).length = ds.length := List.length_map ..
    have hr := RelD.ro (w := W) (own := (Gh.none W.heap.size).own) (bs := (Gh.none W.heap.size).bs) false 1 (ds.map (Ty.cells false (.int .u8))) A c (fun i _ => .int .u8 (ds.getD i 0)) (by rw [hl]; exact h2) h3 (fun i hi => h4 i (by rw [hl] at hi; exact hi)) (fun i row j a g1 g2 => ?_) (fun i row j a g1 g2 => ?_)
    · rw [hl] at hr; exact hr
    · rw [List.getElem?_map] at g1
      obtain ⟨v, hv, e⟩ := Option.map_eq_some_iff.1 g1
      subst e
      rw [Ty.cells] at g2
      cases j with
      | succ j => simp at g2
      | zero =>
        obtain ⟨b, o, e1, _, e2⟩ := h5 i v hv
        refine ⟨b, o, e1, fun h => h, (fun e => by cases e), ?_⟩
        rw [Nat.mul_one, Nat.add_zero, e2, List.getD_eq_getElem?_getD, hv]; rfl
    · rw [List.getElem?_map] at g1
      obtain ⟨v, hv, e⟩ := Option.map_eq_some_iff.1 g1
      subst e
      rw [Ty.cells] at g2
      cases j with
      | succ j => simp at g2
      | zero =>
        simp only [List.getElem?_cons_zero, Option.some.injEq] at g2
        subst g2
        rw [List.getD_eq_getElem?_getD, hv]
        exact .int .u8 v
  have ec : Ty.cells false (.pair (.int .i64) (.pair (.int .i64) (.list (.int .u8)))) (w, (h, ds)) = [.int .i64 w, .int .i64 h, .ro false 1 (ds.map (Ty.cells false (.int .u8)))] := by
    simp only [Ty.cells, Ty.size, List.cons_append, List.nil_append]
  rw [ec]
  refine .peek _ 0 Bb 0 (fun t => match t with | 0 => .int .i64 w | 1 => .int .i64 h | _ => .slice A ds.length c) (by simp) (fun h => h) (fun t a g => ?_) (fun t a g => ?_)
  · match t, g with
    | 0, _ => exact p.c0
    | 1, _ => exact p.c1
    | 2, _ => exact h1
    | t + 3, g => simp at g
  · match t, g with
    | 0, g => simp at g; subst g; exact .int .i64 w
    | 1, g => simp at g; subst g; exact .int .i64 h
    | 2, g => simp at g; subst g; exact hro
    | t + 3, g => simp at g
/-- bitmap.Is -/
theorem is_calls (p : Pic w h ds Bb n0 W) (hw0 : 0 ≤ w) (hw1 : w ≤ 1024) (hh : h ≤ 1024) (hl : (ds.length : Int) = strd w * h) (hb : Bytes ds) (x y : Int) :
    Calls Try.prog 60 #[.pointer (some ⟨Bb, 0, none⟩), .int .i64 x, .int .i64 y] W fun e W' => e = .returned (.bool (pixB w h ds x y)) ∧ Below W.heap.size W W' := by
  have hA := bitmap_Is_ok FU ((w, (h, ds)), (x, (y, ()))) (pixB w h ds x y, ()) (is_r FU hw0 hw1 hh hl hb x y)
  refine (hA.out W #[.pointer (some ⟨Bb, 0, none⟩), .int .i64 x, .int .i64 y] ⟨rfl, fun i a v ha hv => ?_⟩).mono ?_
  · match i, ha, hv with
    | 0, ha, hv =>
      have ha : some (AV.peek (Ty.cells false (.pair (.int .i64) (.pair (.int .i64) (.list (.int .u8)))) (w, (h, ds))) 0) = some a := ha
      have hv : some (Value.pointer (some ⟨Bb, 0, none⟩)) = some v := hv
      injection ha with ha
      injection hv with hv
      subst ha; subst hv
      exact p.rel
    | 1, ha, hv =>
      have ha : some (AV.int .i64 x) = some a := ha
      have hv : some (Value.int .i64 x) = some v := hv
      injection ha with ha
      injection hv with hv
      subst ha; subst hv
      exact rI _ _ _ _
    | 2, ha, hv =>
      have ha : some (AV.int .i64 y) = some a := ha
      have hv : some (Value.int .i64 y) = some v := hv
      injection ha with ha
      injection hv with hv
      subst ha; subst hv
      exact rI _ _ _ _
    | i + 3, ha, hv => simp at hv
  · rintro e W1 ⟨v, rfl, hB, hv⟩
    have hv : RelV W1 _ (.bool (pixB w h ds x y)) v := hv
    rw [hv.bool']
    exact ⟨rfl, hB⟩
theorem is_in (p : Pic w h ds Bb n0 W) (hw0 : 0 ≤ w) (hw1 : w ≤ 1024) (hh : h ≤ 1024) (hl : (ds.length : Int) = strd w * h) (hb : Bytes ds) (x y : Int) (n : Nat) :
    CallsIn Fence.wide n Try.prog 60 #[.pointer (some ⟨Bb, 0, none⟩), .int .i64 x, .int .i64 y] W fun e W' => e = .returned (.bool (pixB w h ds x y)) ∧ Below W.heap.size W W' :=
  callsIn_wide.2 (is_calls p hw0 hw1 hh hl hb x y)
end
set_option maxHeartbeats 1000000 in
/-- bitmap.Row: its two arguments are boxed; the function value has captured the boxes -/
theorem row_in (n : Nat) (v : Option Addr) (y : Int) (W : World) : CallsIn Fence.wide n Try.prog 76 #[.pointer v, .int .i64 y] W fun e W' => e = .returned (.func (.func 87) #[] #[.pointer (some ⟨W.heap.size, 0, none⟩), .pointer (some ⟨W.heap.size + 1, 0, none⟩)]) ∧ W' = (W.alloc (.cells #[.pointer v] 109)).alloc (.cells #[.int .i64 y] 3) := by
  refine callsIn_of_wp Try.func76 rfl trivial ?_ rfl
  simp only [Try.ntmps76, List.size_toArray, List.length_cons, List.length_nil, Nat.reduceAdd, Nat.reduceSub, Array.replicate_succ, Array.replicate_zero, List.push_toArray, List.append_toArray, List.nil_append, List.cons_append]
  gi_wp2
  go_ret
  exact ⟨rfl, rfl⟩
/-- the runs of a row from x on -/
inductive RF (p : Int → Bool) (w y : Int) : Int → List (Int × Int × Int) → Prop
  | done (x : Int) (h : w ≤ x) : RF p w y x []
  | skip (x : Int) (l : List (Int × Int × Int)) (h : x < w) (hp : p x = false) (t : RF p w y (x + 1) l) : RF p w y x l
  | run (x x' : Int) (l : List (Int × Int × Int)) (h : x < x') (h' : x' ≤ w) (hp : ∀ i, x ≤ i → i < x' → p i = true) (hq : x' < w → p x' = false) (t : RF p w y x' l) : RF p w y x ((y, x, x') :: l)
def encR3 (r : Int × Int × Int) : Value := .agg #[.int .i64 r.1, .int .i64 r.2.1, .int .i64 r.2.2]
set_option maxRecDepth 100000 in
set_option maxHeartbeats 4000000 in
theorem row1_in (n : Nat) (hn : 1 ≤ n) (l B1 B2 n0 Bb N : Nat) (w h y : Int) (ds : List Int) (hw0 : 0 ≤ w) (hw1 : w ≤ 1024) (hh : h ≤ 1024) (hl : (ds.length : Int) = strd w * h) (hb : Bytes ds) (rs : List (Int × Int × Int)) (hrs : RF (fun x => pixB w h ds x y) w y 0 rs) (J Jx : List (Int × Int × Int) → World → Prop) (hJ : AbidesFrom N J)
    (hY : ∀ pre x W, J pre W → pre.length < rs.length → YieldAt Fence.wide (n - 1) Try.prog l #[encR3 x] W fun e W' =>
      (e = .returned (.bool true) ∧ J (pre ++ [x]) W' ∧ Kp3 n0 Bb B1 B2 W W') ∨ (e = .returned (.bool false) ∧ Jx (pre ++ [x]) W'))
    (W : World) (hc1 : W.cell? ⟨B1, 0, none⟩ = some (.pointer (some ⟨Bb, 0, none⟩))) (hc2 : W.cell? ⟨B2, 0, none⟩ = some (.int .i64 y)) (hP : Pic w h ds Bb n0 W) (h0 : J [] W) :
    CallsIn Fence.wide n Try.prog 87 #[.func (.yield l) #[] #[], .pointer (some ⟨B1, 0, none⟩), .pointer (some ⟨B2, 0, none⟩)] W fun e W' => (∃ v, e = .returned v) ∧
      ((∃ ys, ys = rs ∧ J ys W') ∨ (∃ pre, pre <+: rs ∧ Jx pre W')) := by
  refine callsIn_of_wp Try.func87 rfl trivial ?_ rfl
  simp only [Try.ntmps87, List.size_toArray, List.length_cons, List.length_nil, Nat.reduceAdd, Nat.reduceSub, Array.replicate_succ, Array.replicate_zero, List.push_toArray, List.append_toArray, List.nil_append, List.cons_append]
  gi_wp2
  gi_loopw [4] (fun p wr => ∃ (pre rest : List (Int × Int × Int)) (x : Int), p = .int .i64 x ∧ 0 ≤ x ∧ x ≤ w ∧ rs = pre ++ rest ∧ RF (fun x => pixB w h ds x y) w y x rest ∧ J pre wr ∧ Pic w h ds Bb n0 wr ∧ wr.cell? ⟨B1, 0, none⟩ = some (.pointer (some ⟨Bb, 0, none⟩)) ∧ wr.cell? ⟨B2, 0, none⟩ = some (.int .i64 y))
    (fun p wr => (w - intOf p).toNat)
  case atStart =>
    exact ⟨[], rs, 0, rfl, by omega, hw0, rfl, hrs, h0, hP, hc1, hc2⟩
  case round =>
    obtain ⟨pre, rest, x, rfl, hx0, hx1, hx, hrf, hJs, hPs, hk1, hk2⟩ := hrel
    have hc0 := hPs.c0
    cases hrf with
    | done _ hd =>
      have hlt : ¬ x < w := by omega
      gi_wp2
      go_end0
      exact ⟨⟨_, rfl⟩, .inl hJs⟩
    | skip _ _ hlt hp t =>
      have hp : pixB w h ds x y = false := hp
      gi_wp2_with (refine ⟨trivial, ?_⟩; gi_at_call 60; refine (is_in hPs hw0 hw1 hh hl hb x y _).mono ?_; rintro e W2 ⟨rfl, hB⟩; rw [hp])
      exact ⟨⟨pre, rest, x + 1, rfl, by omega, by omega, hx, t, hJ pre wr W2 none hJs (grown_of_below hB) (fun r e => by cases e), hPs.is hB, keepIs hk1 hB, keepIs hk2 hB⟩, by simp [intOf]; omega⟩
    | run _ x' rest hlt hle hp hq t =>
      have hpx : pixB w h ds x y = true := hp x (by omega) hlt
      have hxw : x < w := by omega
      gi_wp2_with (refine ⟨trivial, ?_⟩; gi_at_call 60; refine (is_in hPs hw0 hw1 hh hl hb x y _).mono ?_; rintro e W2 ⟨rfl, hB⟩; rw [hpx])
      have hJ2 := hJ pre wr W2 none hJs (grown_of_below hB) (fun r e => by cases e)
      have hP2 := hPs.is hB
      have k1 := keepIs hk1 hB
      have k2 := keepIs hk2 hB
      clear hJs hPs hk1 hk2 hc0 hB
      gi_loopw [4] (fun p wq => ∃ (x1 : Int), p = .int .i64 x1 ∧ x ≤ x1 ∧ x1 ≤ x' ∧ J pre wq ∧ Pic w h ds Bb n0 wq ∧ wq.cell? ⟨B1, 0, none⟩ = some (.pointer (some ⟨Bb, 0, none⟩)) ∧ wq.cell? ⟨B2, 0, none⟩ = some (.int .i64 y))
        (fun p wq => (w - intOf p).toNat)
      case atStart =>
        exact ⟨x, rfl, by omega, by omega, hJ2, hP2, k1, k2⟩
      case round =>
        clear hJ2 hP2 k1 k2
        obtain ⟨x1, rfl, hy0, hy1, hJ3, hP3, k1, k2⟩ := hrel
        have hc0 := hP3.c0
        by_cases hcase : x1 < x'
        · have hpx1 : pixB w h ds x1 y = true := hp x1 hy0 hcase
          have hx1w : x1 < w := by omega
          gi_wp2_with (refine ⟨trivial, ?_⟩; gi_at_call 60; refine (is_in hP3 hw0 hw1 hh hl hb x1 y _).mono ?_; rintro e W4 ⟨rfl, hB⟩; rw [hpx1])
          exact ⟨⟨x1 + 1, rfl, by omega, by omega, hJ pre _ W4 none hJ3 (grown_of_below hB) (fun r e => by cases e), hP3.is hB, keepIs k1 hB, keepIs k2 hB⟩, by simp [intOf]; omega⟩
        · have e1 : x1 = x' := by omega
          subst e1
          by_cases hx1w : x1 < w
          · have hpx1 : pixB w h ds x1 y = false := hq hx1w
            gi_wp2_with (refine ⟨trivial, ?_⟩; gi_at_call 60; refine (is_in hP3 hw0 hw1 hh hl hb x1 y _).mono ?_; rintro e W4 ⟨rfl, hB⟩; rw [hpx1]; have hJ4 := hJ pre _ W4 none hJ3 (grown_of_below hB) (fun r e => by cases e); have hP4 := hP3.is hB; have q1 := keepIs k1 hB; have q2 := keepIs k2 hB; obtain ⟨fn, tmps, assign, body, hy, hR⟩ := hY pre (y, x, x1) W4 hJ4 (by rw [hx]; simp); simp only [encR3] at hy; clear hY hJ3 hP3 k1 k2)
            refine hR.mono ?_
            rintro e W5 (⟨rfl, hJ5, hk5⟩ | ⟨rfl, hJx5⟩)
            · gi_wp2
              exact ⟨⟨pre ++ [(y, x, x1)], rest, x1, rfl, by omega, by omega, by simp [hx], t, hJ5, hP4.keep3 hk5, (World.cell?_of_block (a := ⟨B1, 0, none⟩) (hk5.2 B1 (.inr (.inl rfl)))).trans q1, (World.cell?_of_block (a := ⟨B2, 0, none⟩) (hk5.2 B2 (.inr (.inr rfl)))).trans q2⟩, by simp [intOf]; omega⟩
            · gi_wp2
              refine bodyPost_ret (results_none rfl _ _ _) rfl ?_
              exact ⟨⟨_, rfl⟩, .inr ⟨pre ++ [(y, x, x1)], ⟨rest, by simp [hx]⟩, hJx5⟩⟩
          · have hP4 := hP3
            have q1 := k1
            have q2 := k2
            obtain ⟨fn, tmps, assign, body, hy, hR⟩ := hY pre (y, x, x1) wr hJ3 (by rw [hx]; simp)
            simp only [encR3] at hy
            clear hY hJ3 hP3
            gi_wp2
            refine ⟨trivial, ?_⟩
            gi_wp2
            refine hR.mono ?_
            rintro e W5 (⟨rfl, hJ5, hk5⟩ | ⟨rfl, hJx5⟩)
            · gi_wp2
              exact ⟨⟨pre ++ [(y, x, x1)], rest, x1, rfl, by omega, by omega, by simp [hx], t, hJ5, hP4.keep3 hk5, (World.cell?_of_block (a := ⟨B1, 0, none⟩) (hk5.2 B1 (.inr (.inl rfl)))).trans q1, (World.cell?_of_block (a := ⟨B2, 0, none⟩) (hk5.2 B2 (.inr (.inr rfl)))).trans q2⟩, by simp [intOf]; omega⟩
            · gi_wp2
              refine bodyPost_ret (results_none rfl _ _ _) rfl ?_
              exact ⟨⟨_, rfl⟩, .inr ⟨pre ++ [(y, x, x1)], ⟨rest, by simp [hx]⟩, hJx5⟩⟩
theorem row1_stops (n : Nat) (hn : 1 ≤ n) (B1 B2 n0 Bb : Nat) (w h y : Int) (ds : List Int) (hw0 : 0 ≤ w) (hw1 : w ≤ 1024) (hh : h ≤ 1024) (hl : (ds.length : Int) = strd w * h) (hb : Bytes ds) (rs : List (Int × Int × Int)) (hrs : RF (fun x => pixB w h ds x y) w y 0 rs)
    (W : World) (hc1 : W.cell? ⟨B1, 0, none⟩ = some (.pointer (some ⟨Bb, 0, none⟩))) (hc2 : W.cell? ⟨B2, 0, none⟩ = some (.int .i64 y)) (hP : Pic w h ds Bb n0 W) :
    SeqStopsK Fence.wide n Try.prog 87 #[.pointer (some ⟨B1, 0, none⟩), .pointer (some ⟨B2, 0, none⟩)] (fun x => #[encR3 x]) (Kp3 n0 Bb B1 B2) (fun ys => ys = rs) (fun pre => pre <+: rs) rs.length W := fun l J Jx W' hW hJ _ hY h0 =>
  row1_in n hn l B1 B2 n0 Bb W'.heap.size w h y ds hw0 hw1 hh hl hb rs hrs J Jx hJ hY W' (keepIs hc1 hW) (keepIs hc2 hW) (hP.is hW) h0
end Go.Proofs.Ytnbmldnahacnlaa
/- bitmap.Runs at one bitmap. -/
namespace Go.Proofs.Ytnbmldnahacnlaa
open Go Go.RowKit Go.Shelf
attribute [local go_sem] Oper.semAt_some

def dots2 : List Int := [144, 8]
theorem dots_b : Bytes dots2 := by intro d hd; simp [dots2] at hd; omega
theorem dots_l : (dots2.length : Int) = strd 5 * 2 := by decide
/-- bytes in memory -/
def SlD (ds : List Int) (n0 : Nat) (W : World) (A : Option Addr) (c : Nat) : Prop := ds.length ≤ c ∧ c ≤ maxLen ∧ (∀ i, i < ds.length → A ≠ none) ∧ ∀ (i : Nat) (v : Int), ds[i]? = some v → ∃ b o, A = some ⟨b, o, none⟩ ∧ b < n0 ∧ W.cell? ⟨b, o + i, none⟩ = some (.int .u8 v)
theorem SlD.is {ds : List Int} {n0 : Nat} {W W' : World} {A : Option Addr} {c : Nat} (p : SlD ds n0 W A c) (hb : Below n0 W W') : SlD ds n0 W' A c := by
  obtain ⟨h2, h3, h4, h5⟩ := p
  refine ⟨h2, h3, h4, fun i v hv => ?_⟩
  obtain ⟨b, o, e1, e0, e2⟩ := h5 i v hv
  exact ⟨b, o, e1, e0, (hb.cell (p := ⟨b, o + i, none⟩) e0).trans e2⟩
theorem SlD.rel {ds : List Int} {n0 m : Nat} {W : World} {A : Option Addr} {c : Nat} (p : SlD ds n0 W A c) (w h : Int) : RelV W (Gh.none m) (.agg (Ty.cells false (.pair (.int .i64) (.pair (.int .i64) (.list (.int .u8)))) (w, (h, ds)))) (.agg #[.int .i64 w, .int .i64 h, .slice A ds.length c]) := by
  obtain ⟨h2, h3, h4, h5⟩ := p
  have hro : RelD W (Gh.none m).own (Gh.none m).bs (.ro false 1 (ds.map (Ty.cells false (.int .u8)))) (.slice A ds.length c) := by
    have hl : (ds.map (Ty.cells false (.int .u8))).length = ds.length := List.length_map ..
    have hr := RelD.ro (w := W) (own := (Gh.none m).own) (bs := (Gh.none m).bs) false 1 (ds.map (Ty.cells false (.int .u8))) A c (fun i _ => .int .u8 (ds.getD i 0)) (by rw [hl]; exact h2) h3 (fun i hi => h4 i (by rw [hl] at hi; exact hi)) (fun i row j a g1 g2 => ?_) (fun i row j a g1 g2 => ?_)
    · rw [hl] at hr; exact hr
    · rw [List.getElem?_map] at g1
      obtain ⟨v, hv, e⟩ := Option.map_eq_some_iff.1 g1
      subst e
      rw [Ty.cells] at g2
      cases j with
      | succ j => simp at g2
      | zero =>
        obtain ⟨b, o, e1, _, e2⟩ := h5 i v hv
        refine ⟨b, o, e1, fun h => h, (fun e => by cases e), ?_⟩
        rw [Nat.mul_one, Nat.add_zero, e2, List.getD_eq_getElem?_getD, hv]; rfl
    · rw [List.getElem?_map] at g1
      obtain ⟨v, hv, e⟩ := Option.map_eq_some_iff.1 g1
      subst e
      rw [Ty.cells] at g2
      cases j with
      | succ j => simp at g2
      | zero =>
        simp only [List.getElem?_cons_zero, Option.some.injEq] at g2
        subst g2
        rw [List.getD_eq_getElem?_getD, hv]
        exact .int .u8 v
  have ec : Ty.cells false (.pair (.int .i64) (.pair (.int .i64) (.list (.int .u8)))) (w, (h, ds)) = [.int .i64 w, .int .i64 h, .ro false 1 (ds.map (Ty.cells false (.int .u8)))] := by
    simp only [Ty.cells, Ty.size, List.cons_append, List.nil_append]
  rw [ec]
  refine .agg _ _ (by simp) fun t a v ga gv => ?_
  match t, ga, gv with
  | 0, ga, gv => simp at ga gv; subst ga; subst gv; exact rI _ _ _ _
  | 1, ga, gv => simp at ga gv; subst ga; subst gv; exact rI _ _ _ _
  | 2, ga, gv => simp at ga gv; subst ga; subst gv; exact .dat hro
  | t + 3, ga, gv => simp at ga
/-- bitmap.Check of it -/
theorem check_calls {W : World} {A : Option Addr} {c n0 : Nat} (hA : SlD dots2 n0 W A c) (n : Nat) :
    CallsIn Fence.wide n Try.prog 38 #[.agg #[.int .i64 5, .int .i64 2, .slice A 2 c]] W fun e W' => e = .returned (.int .i64 0) ∧ Below W.heap.size W W' := by
  have hr : bitmap_Check_r FU ((5, (2, dots2)), ()) = some (0, ()) := by
    have := check_r (fu := FU) (Nat.le_refl _) (w := 5) (h := 2) dots_b
    rw [this]
    decide
  have hc := bitmap_Check_ok FU ((5, (2, dots2)), ()) (0, ()) hr
  refine callsIn_wide.2 ((hc.out W #[.agg #[.int .i64 5, .int .i64 2, .slice A 2 c]] ⟨rfl, fun i a v ha hv => ?_⟩).mono ?_)
  · match i, ha, hv with
    | 0, ha, hv =>
      have ha : some (AV.agg (Ty.cells false (.pair (.int .i64) (.pair (.int .i64) (.list (.int .u8)))) (5, (2, dots2)))) = some a := ha
      have hv : some (Value.agg #[.int .i64 5, .int .i64 2, .slice A 2 c]) = some v := hv
      injection ha with ha
      injection hv with hv
      subst ha; subst hv
      exact hA.rel 5 2
    | i + 1, ha, hv => simp at hv
  · rintro e W1 ⟨v, rfl, hB, hv⟩
    have hv : RelV W1 _ (.int .i64 0) v := hv
    rw [hv.int']
    exact ⟨rfl, hB⟩
def rs0 : List (Int × Int × Int) := [(0, 0, 1), (0, 3, 4)]
def rs1 : List (Int × Int × Int) := [(1, 4, 5)]
theorem rs0_ok : RF (fun x => pixB 5 2 dots2 x 0) 5 0 0 rs0 := by
  refine .run 0 1 _ (by omega) (by omega) (fun i h1 h2 => ?_) (fun _ => by decide) ?_
  · have : i = 0 := by omega
    subst this; decide
  refine .skip 1 _ (by omega) (by decide) (.skip _ _ (by omega) (by decide) ?_)
  refine .run _ 4 _ (by omega) (by omega) (fun i h1 h2 => ?_) (fun _ => by decide) ?_
  · have : i = 3 := by omega
    subst this; decide
  exact .skip _ _ (by omega) (by decide) (.done _ (by omega))
theorem rs1_ok : RF (fun x => pixB 5 2 dots2 x 1) 5 1 0 rs1 := by
  refine .skip _ _ (by omega) (by decide) (.skip _ _ (by omega) (by decide) (.skip _ _ (by omega) (by decide) (.skip _ _ (by omega) (by decide) ?_)))
  refine .run _ 5 _ (by omega) (by omega) (fun i h1 h2 => ?_) (fun h => by omega) (.done _ (by omega))
  have : i = 4 := by omega
  subst this; decide
def flatR (l : List (Int × Int × Int)) : List Value := l.flatMap fun r => [.int .i64 r.1, .int .i64 r.2.1, .int .i64 r.2.2]
/-- what the caller's cells hold -/
def RB (Bb B1 B2 : Nat) (A : Option Addr) (c : Nat) (y : Int) (W : World) : Prop := W.heap[Bb]? = some (.cells #[.int .i64 5, .int .i64 2, .slice A 2 c] 24 (0, 0)) ∧ Boxed W B1 109 (.pointer (some ⟨Bb, 0, none⟩)) ∧ Boxed W B2 3 (.int .i64 y)
def RL (n0 Bl : Nat) (L : List (Int × Int × Int)) (W : World) : Prop := ∃ v, Boxed W Bl 74 v ∧ W.ownsRow n0 77 3 v L.length (flatR L) ∧ True
theorem cells_own {W W' : World} {row : Option Nat} {b : Nat} {cs : Array Value} {t : TypeId} {z : Nat × Nat} (h : W.heap[b]? = some (.cells cs t z)) (hg : W.grownBy W' row) (hr : ∀ r, row = some r → ∃ o : Obj, W.heap[r]? = some o ∧ o.isCells = false) : W'.heap[b]? = some (.cells cs t z) := by
  refine (hg.block b (Array.getElem?_eq_some_iff.1 h).1 fun e => ?_).trans h
  obtain ⟨o, ho, hc⟩ := hr b e.symm
  rw [h] at ho
  injection ho with ho
  subst ho
  cases hc
theorem RB.own {Bb B1 B2 : Nat} {A : Option Addr} {c : Nat} {y : Int} {W W' : World} {row : Option Nat} (p : RB Bb B1 B2 A c y W) (hg : W.grownBy W' row) (hr : ∀ r, row = some r → ∃ o : Obj, W.heap[r]? = some o ∧ o.isCells = false) : RB Bb B1 B2 A c y W' :=
  ⟨cells_own p.1 hg hr, cells_own p.2.1 hg hr, cells_own p.2.2 hg hr⟩
theorem RB.pic {Bb B1 B2 : Nat} {A : Option Addr} {c n0 : Nat} {y : Int} {W : World} (p : RB Bb B1 B2 A c y W) (h : SlD dots2 n0 W A c) : Pic 5 2 dots2 Bb n0 W := by
  have hc := p.1
  exact ⟨by simp [World.cell?, hc], by simp [World.cell?, hc], A, c, by simp [World.cell?, hc, dots2], h⟩
theorem kp3_b {w : World} {n0 Bb B1 B2 : Nat} (h : n0 ≤ w.heap.size) (hb : ∀ b, (b = Bb ∨ b = B1 ∨ b = B2) → b < w.heap.size) : ∀ (W : World) (l : Nat) (o o' : Obj), w.heap.size ≤ l → W.heap[l]? = some o → o.isCells = false → o.isWalk = false → Kp3 n0 Bb B1 B2 W (W.putObj l o') := fun W l o o' hl ho hc hw =>
  ⟨belowK_b h W l o o' hl ho hc hw, fun b h => (grownBy_putObj' W l o').block b (by have := hb b h; have := (Array.getElem?_eq_some_iff.1 ho).1; omega) (fun e => by injection e with e; have := hb b h; omega)⟩
theorem kp3_t {n0 Bb B1 B2 : Nat} {A B C : World} (h : Kp3 n0 Bb B1 B2 A B) (k : Kp3 n0 Bb B1 B2 B C) : Kp3 n0 Bb B1 B2 A C := ⟨h.1.trans k.1, fun b hb => (k.2 b hb).trans (h.2 b hb)⟩
theorem kp3_below {n0 Bb B1 B2 : Nat} {W W' : World} (h : Below W.heap.size W W') (h0 : n0 ≤ W.heap.size) (hb : ∀ b, (b = Bb ∨ b = B1 ∨ b = B2) → b < W.heap.size) : Kp3 n0 Bb B1 B2 W W' := ⟨h.mono h0, fun b e => h.block b (hb b e)⟩
theorem keepsFrom_below {W W' : World} {B : Nat} (h : Below W.heap.size W W') : KeepsFrom B W W' := ⟨h.size, fun k _ _ hk _ => (h.block k (Array.getElem?_eq_some_iff.1 hk).1).trans hk⟩
theorem dfr_own {β : Type} {D B : Nat} (hD : D < B) : OwnFrom B (fun (_ : β) W => W.heap[D]? = some (.deferred (some []))) := fun _ X Y row h hg hr =>
  (hg.block D (Array.getElem?_eq_some_iff.1 h).1 fun e => by have := (hr D e.symm).1; omega).trans h
def RX (Bx : Nat) (x : Int × Int × Int) (W : World) : Prop := W.heap[Bx]? = some (.cells #[.int .i64 x.1, .int .i64 x.2.1, .int .i64 x.2.2] 77 (0, 0))
theorem flatR_append (l m : List (Int × Int × Int)) : flatR (l ++ m) = flatR l ++ flatR m := by simp [flatR]
theorem RB.lt {Bb B1 B2 : Nat} {A : Option Addr} {c : Nat} {y : Int} {W : World} (p : RB Bb B1 B2 A c y W) : ∀ b, (b = Bb ∨ b = B1 ∨ b = B2) → b < W.heap.size := by
  rintro b (rfl | rfl | rfl)
  · exact (Array.getElem?_eq_some_iff.1 p.1).1
  · exact p.2.1.lt
  · exact p.2.2.lt
/-- the caller's cells over an append to its list -/
theorem RB.app {Bb B1 B2 Bl : Nat} {A : Option Addr} {c k : Nat} {y : Int} {W w1 : World} {v v' : Value} {xs : List Value} {tmp : Obj} (p : RB Bb B1 B2 A c y W) (hrow : W.ownsRow Bb 77 3 v k xs) (hg : (W.alloc tmp).grownBy w1 v.ownBlock) (h0 : Bb < Bl) (h1 : Bl < B1) (h2 : B1 < B2) (hb : Below Bb W (w1.setCell ⟨Bl, 0, none⟩ v')) :
    Kp3 Bb Bb B1 B2 W (w1.setCell ⟨Bl, 0, none⟩ v') ∧ RB Bb B1 B2 A c y (w1.setCell ⟨Bl, 0, none⟩ v') := by
  have ne : ∀ (b : Nat) (cs : Array Value) (t : TypeId), W.heap[b]? = some (.cells cs t (0, 0)) → t ≠ 77 → some b ≠ v.ownBlock := by
    intro b cs t hb ht e
    rcases hrow.2 with ⟨rfl, _⟩ | ⟨g, cap, cur, rfl, _, hgb, _⟩
    · cases e
    · injection e with e
      have e : b = g := e
      subst e
      rw [hgb] at hb
      injection hb with hb
      injection hb with _ hb _
      exact ht hb.symm
  have key : ∀ b, (b = Bb ∨ b = B1 ∨ b = B2) → (w1.setCell ⟨Bl, 0, none⟩ v').heap[b]? = W.heap[b]? := by
    intro b hb
    have hlt := p.lt b hb
    have e1 : (w1.setCell ⟨Bl, 0, none⟩ v').heap[b]? = w1.heap[b]? := Below.heap_setCell _ _ _ _ (show b ≠ Bl by rcases hb with rfl | rfl | rfl <;> omega)
    rw [e1, hg.block b (by rw [World.size_alloc]; omega) ?_]
    · exact Below.heap_alloc W tmp b hlt
    · rcases hb with rfl | rfl | rfl
      · exact ne _ _ _ p.1 (by decide)
      · exact ne _ _ _ p.2.1 (by decide)
      · exact ne _ _ _ p.2.2 (by decide)
  exact ⟨⟨hb, key⟩, (key Bb (.inl rfl)).trans p.1, (key B1 (.inr (.inl rfl))).trans p.2.1, (key B2 (.inr (.inr rfl))).trans p.2.2⟩
theorem infoRun : (Try.prog.info? 77).map (fun i => (i.zero, i.size, i.bytes)) = some (some (.agg #[.int .i64 0, .int .i64 0, .int .i64 0]), 3, 24) := by kernel_rfl
theorem news_3 (w : World) (e : TypeId) (a b c : Value) (H : Nat) (hH : w.heap.size = H) : ∀ j u, [a, b, c][j]? = some u → (w.alloc (.cells #[a, b, c] e)).cell? ((⟨H, 0, none⟩ : Addr).add j) = some u := by
  intro j u hu
  subst hH
  rw [Addr.add_lit, Nat.zero_add, World.cell?_alloc_new]
  simpa using hu
theorem one_3 {k k' k'' : IntKind} {a b c : Int} : ∀ u ∈ [Value.int k a, Value.int k' b, Value.int k'' c], u.oneCell' = true := by
  intro u hu
  simp only [List.mem_cons, List.not_mem_nil, or_false] at hu
  rcases hu with rfl | rfl | rfl <;> rfl
set_option maxRecDepth 100000 in
set_option maxHeartbeats 4000000 in
theorem runs_calls {W : World} {A : Option Addr} {c : Nat} (hA : SlD dots2 W.heap.size W A c) :
    CallsIn Fence.wide 9 Try.prog 66 #[.agg #[.int .i64 5, .int .i64 2, .slice A 2 c]] W fun e W' => ∃ v, e = .returned (.tuple #[v, .int .i64 0]) ∧ W'.ownsRow W.heap.size 77 3 v 3 (flatR (rs0 ++ rs1)) ∧ Below W.heap.size W W' := by
  obtain ⟨W1, hW1⟩ : ∃ W1, W.alloc (.cells #[.int .i64 5, .int .i64 2, .slice A 2 c] 24) = W1 := ⟨_, rfl⟩
  have hB1 : Below W.heap.size W W1 := by rw [← hW1]; exact (Below.refl _ W).alloc (Nat.le_refl _) _
  have hsz1 : W1.heap.size = W.heap.size + 1 := by rw [← hW1]; simp
  have hcell : W1.heap[W.heap.size]? = some (.cells #[.int .i64 5, .int .i64 2, .slice A 2 c] 24 (0, 0)) := by rw [← hW1]; exact World.alloc_heap_new W _
  have hA1 : SlD dots2 W.heap.size W1 A c := hA.is hB1
  have g0 : W1.cell? ⟨W.heap.size, 0, none⟩ = some (.int .i64 5) := by simp [World.cell?, hcell]
  have g1 : W1.cell? ⟨W.heap.size, 1, none⟩ = some (.int .i64 2) := by simp [World.cell?, hcell]
  have g2 : W1.cell? ⟨W.heap.size, 2, none⟩ = some (.slice A 2 c) := by simp [World.cell?, hcell]
  obtain ⟨i0, hi, hz0, hz1, hz2⟩ := info_parts infoRun
  refine callsIn_of_wp_marks Try.func66 rfl trivial ?_ rfl
  simp only [Try.ntmps66, List.size_toArray, List.length_cons, List.length_nil, Nat.reduceAdd, Nat.reduceSub, Array.replicate_succ, Array.replicate_zero, List.push_toArray, List.append_toArray, List.nil_append, List.cons_append]
  gi_wp2_with (refine ⟨trivial, ?_⟩; gi_at_call 38; refine (check_calls hA1 _).mono ?_; rintro e W2 ⟨rfl, hB⟩; have hc1 : (W2.alloc (.cells #[.slice none 0 0] 74)).cell? ⟨W.heap.size, 1, none⟩ = some (.int .i64 2) := (keepIs1 (keepIs1 g1 hB) ((Below.refl _ W2).alloc (Nat.le_refl _) _)))
  have hB2 : Below W.heap.size W W2 := hB1.trans (hB.mono (by omega))
  have hsz2 : W1.heap.size ≤ W2.heap.size := hB.size
  have bL := Boxed.new W2 74 (.slice none 0 0)
  have hcs := cells_own (cells_own hcell (grown_of_below hB) (fun r e => by cases e)) (grown_of_below ((Below.refl _ W2).alloc (Nat.le_refl _) (.cells #[.slice none 0 0] 74))) (fun r e => by cases e)
  have hBs : Below W.heap.size W (W2.alloc (.cells #[.slice none 0 0] 74)) := hB2.alloc (by omega) _
  have hsz3 : (W2.alloc (.cells #[.slice none 0 0] 74)).heap.size = W2.heap.size + 1 := by simp
  obtain ⟨W3, hW3⟩ : ∃ W3, W2.alloc (.cells #[.slice none 0 0] 74) = W3 := ⟨_, rfl⟩
  rw [hW3] at hc1 bL hcs hBs hsz3 ⊢
  obtain ⟨Bl, hBl⟩ : ∃ Bl, W2.heap.size = Bl := ⟨_, rfl⟩
  rw [hBl] at bL hsz3 hsz2 ⊢
  obtain ⟨Bb, hBb⟩ : ∃ Bb, W.heap.size = Bb := ⟨_, rfl⟩
  rw [hBb] at hsz1 hcs hc1 hBs hA ⊢
  have hlt : Bb < Bl := by omega
  have bLs : RL Bb Bl [] W3 := ⟨_, bL, World.ownsRow_nil _ _ _ _, trivial⟩
  clear hW3 hB2 hBl hB hA1 g0 g1 g2 hB1 hW1 hsz1 hsz2 bL hcell
  refine wpIn_loop_rounds 3 ?_
  rw [roundsIn_succ]
  gi_wp2_with (refine ⟨trivial, ?_⟩; gi_at_call 76; refine (row_in _ _ _ _).mono ?_; rintro e W4 ⟨rfl, rfl⟩)
  clear hc1
  have hB5 : Below W3.heap.size W3 ((W3.alloc (.cells #[.pointer (some ⟨Bb, 0, none⟩)] 109)).alloc (.cells #[.int .i64 0] 3)) := ((Below.refl _ _).alloc (Nat.le_refl _) _).alloc (by simp) _
  have b1 := (Boxed.new W3 109 (.pointer (some ⟨Bb, 0, none⟩))).alloc (.cells #[.int .i64 0] 3)
  have b2 := Boxed.new (W3.alloc (.cells #[.pointer (some ⟨Bb, 0, none⟩)] 109)) 3 (.int .i64 0)
  have z5 : ((W3.alloc (.cells #[.pointer (some ⟨Bb, 0, none⟩)] 109)).alloc (.cells #[.int .i64 0] 3)).heap.size = W3.heap.size + 2 := by simp
  rw [World.size_alloc] at b2
  have bL5 : RL Bb Bl ([] : List (Int × Int × Int)) ((W3.alloc (.cells #[.pointer (some ⟨Bb, 0, none⟩)] 109)).alloc (.cells #[.int .i64 0] 3)) := holdsRow_own Bb Bl 74 77 3 (fun (L : List (Int × Int × Int)) => L.length) flatR (fun _ _ => True) ([] : List (Int × Int × Int)) _ _ none bLs (grown_of_below hB5) (fun r e => by cases e)
  have hc5 := cells_own hcs (grown_of_below hB5) (fun r e => by cases e)
  have hbel5 : Below Bb W ((W3.alloc (.cells #[.pointer (some ⟨Bb, 0, none⟩)] 109)).alloc (.cells #[.int .i64 0] 3)) := hBs.trans (hB5.mono (by omega))
  obtain ⟨B1, hB1⟩ : ∃ B1, W3.heap.size = B1 := ⟨_, rfl⟩
  obtain ⟨B2, hB2⟩ : ∃ B2, B1 + 1 = B2 := ⟨_, rfl⟩
  obtain ⟨W5, hW5⟩ : ∃ W5, (W3.alloc (.cells #[.pointer (some ⟨Bb, 0, none⟩)] 109)).alloc (.cells #[.int .i64 0] 3) = W5 := ⟨_, rfl⟩
  rw [hW5] at b1 b2 z5 bL5 hc5 hbel5 hB5 ⊢
  rw [hB1] at b1 b2 z5
  rw [hB2] at b2
  have hlB : Bl < B1 := by omega
  rw [show Bl + 1 = B1 by omega, hB2]
  have hRB5 : RB Bb B1 B2 A c 0 W5 := ⟨hc5, b1, b2⟩
  have hblt : ∀ b, (b = Bb ∨ b = B1 ∨ b = B2) → b < W5.heap.size := by rintro b (rfl | rfl | rfl) <;> omega
  clear hW5 b1 b2 hc5 hcs bLs hBs hB5
  have hOwn : OwnFrom W5.heap.size (fun pre W' => RL Bb Bl (([] : List (Int × Int × Int)) ++ pre) W' ∧ RB Bb B1 B2 A c 0 W' ∧ Below Bb W W') := OwnFrom.and (Own.from (holdsRow_own Bb Bl 74 77 3 (fun pre => (([] : List (Int × Int × Int)) ++ pre).length) (fun pre => flatR (([] : List (Int × Int × Int)) ++ pre)) (fun _ _ => True)) _) (OwnFrom.and (Own.from (fun _ _ _ _ hs hg hr => RB.own hs hg hr) _) (ownFrom_below (by rw [hBb]; exact Nat.le_refl _) (by rw [z5]; omega)))
  refine wpIn_rangeFunc_ownH rfl (by omega) (gf := 87) (lb := #[.pointer (some ⟨B1, 0, none⟩), .pointer (some ⟨B2, 0, none⟩)]) rfl trivial (enters_of Try.func87 (by kernel_rfl) rfl)
    (row1_stops _ (by omega) B1 B2 Bb Bb 5 2 0 dots2 (by omega) (by omega) (by omega) dots_l dots_b rs0 rs0_ok W5 hRB5.2.1.cell hRB5.2.2.cell (hRB5.pic (hA.is hbel5))) kp3_t (kp3_b (by omega) hblt) (Below.refl _ _) (fun _ => rfl)
    (fun pre W' => RL Bb Bl (([] : List (Int × Int × Int)) ++ pre) W' ∧ RB Bb B1 B2 A c 0 W' ∧ Below Bb W W')
    (fun _ _ _ => False)
    hOwn
    (fun _ _ _ _ _ hs _ _ => hs)
    ⟨bL5, hRB5, hbel5⟩
    (fun x a' W' => ∃ Bx, Bl < Bx ∧ RX Bx x W' ∧ a' = { tmps := #[.agg #[.int .i64 5, .int .i64 2, .slice A 2 c], .pointer (some ⟨Bb, 0, none⟩), .slice none 0 0, .int .i64 0, .int .i64 0, .pointer (some ⟨Bl, 0, none⟩), .int .i64 0, .pointer (some ⟨Bx, 0, none⟩), .agg #[.int .i64 5, .int .i64 2, .slice A 2 c], .int .i64 0, .int .i64 0, .bool false, undef, .pointer (some ⟨Bb, 1, none⟩), .int .i64 2, .int .i64 0, .bool true, .int .i64 0, .int .i64 0, .func (.func 87) #[] #[.pointer (some ⟨B1, 0, none⟩), .pointer (some ⟨B2, 0, none⟩)], (.agg #[.int .i64 x.1, .int .i64 x.2.1, .int .i64 x.2.2]), undef, undef, undef, undef, undef, undef], defers := [] })
    (fun x a' _ X Y row hs hg hr => by obtain ⟨Bx, h1, h2, h3⟩ := hs; exact ⟨Bx, h1, cells_own h2 hg (fun r e => (hr r e).2), h3⟩)
    ?assign0 ?body0 ?done0 ?stop0
  case assign0 =>
    rintro l pre x W6 K hI hK
    simp only [encR3]
    gi_wp2
    have hbx := (Below.refl _ W6).alloc (Nat.le_refl _) (.cells #[.int .i64 x.1, .int .i64 x.2.1, .int .i64 x.2.2] 77)
    obtain ⟨⟨v, hv, hrow, _⟩, hRB, hBel⟩ := id hI
    exact hK _ _ (keepsFrom_below hbx) (kp3_below hbx (Nat.le_of_lt (hRB.lt Bb (.inl rfl))) hRB.lt) (hOwn pre W6 _ none hI (grown_of_below hbx) (fun r e => by cases e)) ⟨W6.heap.size, hv.lt, World.alloc_heap_new W6 _, rfl⟩
  case body0 =>
    rintro l pre x a' W6 hl ⟨r, hr⟩ ⟨⟨v, hv, hrow, _⟩, hRB, hBel⟩ ⟨Bx, hBx, bX, rfl⟩ hpl
    have hcv := hv.cell
    have k0 : W6.cell? ⟨Bx, 0, none⟩ = some (.int .i64 x.1) := by simp [World.cell?, show W6.heap[Bx]? = _ from bX]
    have k1 : W6.cell? ⟨Bx, 1, none⟩ = some (.int .i64 x.2.1) := by simp [World.cell?, show W6.heap[Bx]? = _ from bX]
    have k2 : W6.cell? ⟨Bx, 2, none⟩ = some (.int .i64 x.2.2) := by simp [World.cell?, show W6.heap[Bx]? = _ from bX]
    have hlen : (([] : List (Int × Int × Int)) ++ pre).length ≤ 3 := by have h0 : pre.length < rs0.length := hpl; have h1 : rs0.length = 2 := rfl; have h2 : (([] : List (Int × Int × Int))).length = 0 := rfl; rw [List.length_append]; omega
    obtain ⟨L, hLe⟩ : ∃ L, ([] : List (Int × Int × Int)) ++ pre = L := ⟨_, rfl⟩
    have hfin : ∀ W', RL Bb Bl (L ++ [x]) W' → RL Bb Bl (([] : List (Int × Int × Int)) ++ (pre ++ [x])) W' := by intro W' h; rw [← List.append_assoc, hLe]; exact h
    rw [hLe] at hrow hlen
    clear hLe
    have hs6 : Bb ≤ W6.heap.size := Nat.le_of_lt (hRB.lt Bb (.inl rfl))
    gi_wp2_with (gi_at_builtin; refine wpListIn_append_own _ rfl _ _ 74 rfl Bb 77 i0 (.agg #[.int .i64 0, .int .i64 0, .int .i64 0]) 3 24 Try.underlying74 hi hz0 hz1 hz2 rfl (by decide) _ _ _ rfl (hrow.alloc _) ⟨W6.heap.size, 0, none⟩ 1 1 [.int .i64 x.1, .int .i64 x.2.1, .int .i64 x.2.2] rfl rfl (news_3 _ _ _ _ _ _ rfl) one_3 (by simp only [maxLen]; omega) (by omega) (by simp; omega) ?_; intro v' w1 hown' hgrow _; obtain ⟨g', cap', rfl⟩ := ownsRow_succ hown'; obtain ⟨hv1, hv2, hr2, hk2, hb2⟩ := hv.appended (by decide) hrow hs6 (Nat.le_of_lt hlt) hown' hgrow; obtain ⟨hkp, hRB2⟩ := hRB.app hrow hgrow hlt hlB (by omega) hb2; have hcw := hv1.cell; have hfw := hv1.frozen)
    exact ⟨hk2.from _, hkp, hfin _ ⟨_, hv2, by rw [flatR_append, List.length_append]; exact hr2, trivial⟩, hRB2, hBel.trans hb2⟩
  case done0 =>
    rintro D0 ys Wq hD rfl ⟨⟨v, hv, hrow, _⟩, hRB, hBs⟩ hD0
    gi_wp2
    rw [roundsIn_succ]
    have bLs : RL Bb Bl rs0 Wq := ⟨v, hv, hrow, trivial⟩
    have hcs := hRB.1
    have hltq : Bl < Wq.heap.size := hv.lt
    have hdlt : D0 < Wq.heap.size := (Array.getElem?_eq_some_iff.1 hD0).1
    have hDb : Bb ≤ D0 := by omega
    clear hOwn hRB5 hbel5 bL5 z5 hblt hlB hsz3 hD hRB hv hrow hB1 hB2
    clear W5 W3 W1 W2
    gi_wp2_with (refine ⟨trivial, ?_⟩; gi_at_call 76; refine (row_in _ _ _ _).mono ?_; rintro e W4 ⟨rfl, rfl⟩)
    have hB5 : Below Wq.heap.size Wq ((Wq.alloc (.cells #[.pointer (some ⟨Bb, 0, none⟩)] 109)).alloc (.cells #[.int .i64 1] 3)) := ((Below.refl _ _).alloc (Nat.le_refl _) _).alloc (by simp) _
    have b1 := (Boxed.new Wq 109 (.pointer (some ⟨Bb, 0, none⟩))).alloc (.cells #[.int .i64 1] 3)
    have b2 := Boxed.new (Wq.alloc (.cells #[.pointer (some ⟨Bb, 0, none⟩)] 109)) 3 (.int .i64 1)
    have z5 : ((Wq.alloc (.cells #[.pointer (some ⟨Bb, 0, none⟩)] 109)).alloc (.cells #[.int .i64 1] 3)).heap.size = Wq.heap.size + 2 := by simp
    rw [World.size_alloc] at b2
    have bL5 : RL Bb Bl rs0 ((Wq.alloc (.cells #[.pointer (some ⟨Bb, 0, none⟩)] 109)).alloc (.cells #[.int .i64 1] 3)) := holdsRow_own Bb Bl 74 77 3 (fun (L : List (Int × Int × Int)) => L.length) flatR (fun _ _ => True) rs0 _ _ none bLs (grown_of_below hB5) (fun r e => by cases e)
    have hc5 := cells_own hcs (grown_of_below hB5) (fun r e => by cases e)
    have hbel5 : Below Bb W ((Wq.alloc (.cells #[.pointer (some ⟨Bb, 0, none⟩)] 109)).alloc (.cells #[.int .i64 1] 3)) := hBs.trans (hB5.mono (by omega))
    have hd5 := (hB5.block D0 (by omega)).trans hD0
    obtain ⟨B1, hB1⟩ : ∃ B1, Wq.heap.size = B1 := ⟨_, rfl⟩
    obtain ⟨B2, hB2⟩ : ∃ B2, B1 + 1 = B2 := ⟨_, rfl⟩
    obtain ⟨W5, hW5⟩ : ∃ W5, (Wq.alloc (.cells #[.pointer (some ⟨Bb, 0, none⟩)] 109)).alloc (.cells #[.int .i64 1] 3) = W5 := ⟨_, rfl⟩
    rw [hW5] at b1 b2 z5 bL5 hc5 hbel5 hB5 hd5 ⊢
    rw [hB1] at b1 b2 z5
    rw [hB2] at b2
    have hlB : Bl < B1 := by omega
    rw [hB1, hB2]
    have hRB5 : RB Bb B1 B2 A c 1 W5 := ⟨hc5, b1, b2⟩
    have hblt : ∀ b, (b = Bb ∨ b = B1 ∨ b = B2) → b < W5.heap.size := by rintro b (rfl | rfl | rfl) <;> omega
    clear hW5 b1 b2 hc5 hcs bLs hBs hB5
    have hOwn : OwnFrom W5.heap.size (fun pre W' => RL Bb Bl (rs0 ++ pre) W' ∧ RB Bb B1 B2 A c 1 W' ∧ Below Bb W W' ∧ W'.heap[D0]? = some (.deferred (some []))) := OwnFrom.and (Own.from (holdsRow_own Bb Bl 74 77 3 (fun pre => (rs0 ++ pre).length) (fun pre => flatR (rs0 ++ pre)) (fun _ _ => True)) _) (OwnFrom.and (Own.from (fun _ _ _ _ hs hg hr => RB.own hs hg hr) _) (OwnFrom.and (ownFrom_below (by rw [hBb]; exact Nat.le_refl _) (by rw [z5]; omega)) (dfr_own (by rw [z5]; omega))))
    refine wpIn_rangeFunc_ownH rfl (by omega) (gf := 87) (lb := #[.pointer (some ⟨B1, 0, none⟩), .pointer (some ⟨B2, 0, none⟩)]) rfl trivial (enters_of Try.func87 (by kernel_rfl) rfl)
      (row1_stops _ (by omega) B1 B2 Bb Bb 5 2 1 dots2 (by omega) (by omega) (by omega) dots_l dots_b rs1 rs1_ok W5 hRB5.2.1.cell hRB5.2.2.cell (hRB5.pic (hA.is hbel5))) kp3_t (kp3_b (by omega) hblt) (Below.refl _ _) (fun _ => rfl)
      (fun pre W' => RL Bb Bl (rs0 ++ pre) W' ∧ RB Bb B1 B2 A c 1 W' ∧ Below Bb W W' ∧ W'.heap[D0]? = some (.deferred (some [])))
      (fun _ _ _ => False)
      hOwn
      (fun _ _ _ _ _ hs _ _ => hs)
      ⟨bL5, hRB5, hbel5, hd5⟩
      (fun x a' W' => ∃ Bx, Bl < Bx ∧ RX Bx x W' ∧ a' = { tmps := #[.agg #[.int .i64 5, .int .i64 2, .slice A 2 c], .pointer (some ⟨Bb, 0, none⟩), .slice none 0 0, .int .i64 0, .int .i64 0, .pointer (some ⟨Bl, 0, none⟩), .int .i64 1, .pointer (some ⟨Bx, 0, none⟩), .agg #[.int .i64 5, .int .i64 2, .slice A 2 c], .int .i64 0, .int .i64 0, .bool false, undef, .pointer (some ⟨Bb, 1, none⟩), .int .i64 2, .int .i64 1, .bool true, .int .i64 1, .int .i64 1, .func (.func 87) #[] #[.pointer (some ⟨B1, 0, none⟩), .pointer (some ⟨B2, 0, none⟩)], (.agg #[.int .i64 x.1, .int .i64 x.2.1, .int .i64 x.2.2]), undef, undef, undef, undef, .int .i64 1, undef], defers := [] })
      (fun x a' _ X Y row hs hg hr => by obtain ⟨Bx, h1, h2, h3⟩ := hs; exact ⟨Bx, h1, cells_own h2 hg (fun r e => (hr r e).2), h3⟩)
      ?assign1 ?body1 ?done1 ?stop1
    case assign1 =>
      rintro l pre x W6 K hI hK
      simp only [encR3]
      gi_wp2
      have hbx := (Below.refl _ W6).alloc (Nat.le_refl _) (.cells #[.int .i64 x.1, .int .i64 x.2.1, .int .i64 x.2.2] 77)
      obtain ⟨⟨v, hv, hrow, _⟩, hRB, hBel⟩ := id hI
      exact hK _ _ (keepsFrom_below hbx) (kp3_below hbx (Nat.le_of_lt (hRB.lt Bb (.inl rfl))) hRB.lt) (hOwn pre W6 _ none hI (grown_of_below hbx) (fun r e => by cases e)) ⟨W6.heap.size, hv.lt, World.alloc_heap_new W6 _, rfl⟩
    case body1 =>
      rintro l pre x a' W6 hl ⟨r, hr⟩ ⟨⟨v, hv, hrow, _⟩, hRB, hBel, hD0⟩ ⟨Bx, hBx, bX, rfl⟩ hpl
      have hcv := hv.cell
      have k0 : W6.cell? ⟨Bx, 0, none⟩ = some (.int .i64 x.1) := by simp [World.cell?, show W6.heap[Bx]? = _ from bX]
      have k1 : W6.cell? ⟨Bx, 1, none⟩ = some (.int .i64 x.2.1) := by simp [World.cell?, show W6.heap[Bx]? = _ from bX]
      have k2 : W6.cell? ⟨Bx, 2, none⟩ = some (.int .i64 x.2.2) := by simp [World.cell?, show W6.heap[Bx]? = _ from bX]
      have hlen : (rs0 ++ pre).length ≤ 3 := by have h0 : pre.length < rs1.length := hpl; have h1 : rs1.length = 1 := rfl; have h2 : (rs0).length = 2 := rfl; rw [List.length_append]; omega
      obtain ⟨L, hLe⟩ : ∃ L, rs0 ++ pre = L := ⟨_, rfl⟩
      have hfin : ∀ W', RL Bb Bl (L ++ [x]) W' → RL Bb Bl (rs0 ++ (pre ++ [x])) W' := by intro W' h; rw [← List.append_assoc, hLe]; exact h
      rw [hLe] at hrow hlen
      clear hLe
      have hs6 : Bb ≤ W6.heap.size := Nat.le_of_lt (hRB.lt Bb (.inl rfl))
      gi_wp2_with (gi_at_builtin; refine wpListIn_append_own _ rfl _ _ 74 rfl Bb 77 i0 (.agg #[.int .i64 0, .int .i64 0, .int .i64 0]) 3 24 Try.underlying74 hi hz0 hz1 hz2 rfl (by decide) _ _ _ rfl (hrow.alloc _) ⟨W6.heap.size, 0, none⟩ 1 1 [.int .i64 x.1, .int .i64 x.2.1, .int .i64 x.2.2] rfl rfl (news_3 _ _ _ _ _ _ rfl) one_3 (by simp only [maxLen]; omega) (by omega) (by simp; omega) ?_; intro v' w1 hown' hgrow _; obtain ⟨g', cap', rfl⟩ := ownsRow_succ hown'; obtain ⟨hv1, hv2, hr2, hk2, hb2⟩ := hv.appended (by decide) hrow hs6 (Nat.le_of_lt hlt) hown' hgrow; obtain ⟨hkp, hRB2⟩ := hRB.app hrow hgrow hlt hlB (by omega) hb2; have hcw := hv1.cell; have hfw := hv1.frozen)
      exact ⟨hk2.from _, hkp, hfin _ ⟨_, hv2, by rw [flatR_append, List.length_append]; exact hr2, trivial⟩, hRB2, hBel.trans hb2, hk2.same D0 _ hD0 rfl⟩
    case done1 =>
      rintro D1 ys W6 hD rfl ⟨⟨v, hv, hrow, _⟩, hRB, hBel, hD0⟩ hK
      have hcv := hv.cell
      gi_wp2
      rw [roundsIn_succ]
      gi_wp2
      have hne : D1 ≠ D0 := by omega
      have hK' : (W6.putObj D1 (.deferred none)).heap[D0]? = some (.deferred (some [])) := ((grownBy_putObj' W6 D1 _).block D0 (Array.getElem?_eq_some_iff.1 hD0).1 (fun e => by injection e with e; exact hne e.symm)).trans hD0
      refine ⟨by simp, .inl ⟨_, _, rfl, run_takeDeferred hK, ?_⟩⟩
      refine ⟨by simp, .inl ⟨_, _, rfl, run_takeDeferred hK', ?_⟩⟩
      have e1 : Below Bb W6 (W6.putObj D1 (.deferred none)) := by rw [← hBb]; exact belowK_b (w := W) (Nat.le_refl _) W6 D1 _ _ (by omega) hK rfl rfl
      have e2 : Below Bb (W6.putObj D1 (.deferred none)) ((W6.putObj D1 (.deferred none)).putObj D0 (.deferred none)) := by rw [← hBb]; exact belowK_b (w := W) (Nat.le_refl _) _ D0 _ _ (by omega) hK' rfl rfl
      rw [hBb]
      exact ⟨_, results_tmp2 rfl _ _ _, v, rfl, ownsRow_putObj (ownsRow_putObj hrow _ hK rfl) _ hK' rfl, (hBel.trans e1).trans e2⟩
    case stop1 =>
      rintro D cc pre W6 _ _ h _
      exact h.elim
  case stop0 =>
    rintro D cc pre W6 _ _ h _
    exact h.elim
/-- bitmap.Runs at the bitmap of the facts -/
def bitmap_Runs_r (_ : Nat) (a : ((Int) × ((Int) × (List (Int)))) × (Unit)) : Option ((List ((Int) × ((Int) × (Int)))) × ((Int) × (Unit))) :=
  if a = ((5, (2, dots2)), ()) then some (rs0 ++ rs1, (0, ())) else none
def bitmap_Runs_ctr : Ctr := ⟨(.pair (.agg (.pair (.int .i64) (.pair (.int .i64) (.list (.int .u8))))) .unit), (.pair (.list (.pair (.int .i64) (.pair (.int .i64) (.int .i64)))) (.pair (.int .i64) .unit)), bitmap_Runs_r, 66⟩
theorem cells_bits (w h : Int) (ds : List Int) : Ty.cells false (.pair (.int .i64) (.pair (.int .i64) (.list (.int .u8)))) (w, (h, ds)) = [.int .i64 w, .int .i64 h, .ro false 1 (ds.map (Ty.cells false (.int .u8)))] := by
  simp only [Ty.cells, Ty.size, List.cons_append, List.nil_append]
theorem relD_int {w : World} {own : Nat → Prop} {bs : Nat} {k : IntKind} {n : Int} {x : Value} (h : RelD w own bs (.int k n) x) : x = .int k n := by cases h; rfl
theorem sl_of {W : World} {G : Gh} {v : Value} {ds : List Int} (r : RelV W G (.ro false 1 (ds.map (Ty.cells false (.int .u8)))) v) : ∃ A c, v = .slice A ds.length c ∧ SlD ds W.heap.size W A c := by
  cases r with
  | dat r =>
    cases r with
    | ro _ _ rows A c f hc hm h0 h1 h2 =>
      have hl : (ds.map (Ty.cells false (.int .u8))).length = ds.length := List.length_map ..
      rw [hl] at hc h0 ⊢
      refine ⟨A, c, rfl, hc, hm, h0, fun i v hv => ?_⟩
      have g1 : (ds.map (Ty.cells false (.int .u8)))[i]? = some [.int .u8 v] := by rw [List.getElem?_map, hv]; rfl
      obtain ⟨b, o, e1, _, _, e2⟩ := h1 i _ 0 _ g1 rfl
      have e3 := h2 i _ 0 _ g1 rfl
      have e4 : f i 0 = .int .u8 v := relD_int e3
      rw [e4, Nat.mul_one, Nat.add_zero] at e2
      exact ⟨b, o, e1, (Go.Proofs.Ytnbmldnahacnlaa.cell_lt e2), e2⟩
theorem rows_ro {W W' : World} {v : Value} (h : W'.ownsRow W.heap.size 77 3 v 3 (flatR (rs0 ++ rs1))) : RelV W' (Gh.frz W.heap.size) (.ro true 3 ((rs0 ++ rs1).map (Ty.cells true (.pair (.int .i64) (.pair (.int .i64) (.int .i64)))))) v := by
  have hl : ((rs0 ++ rs1).map (Ty.cells true (.pair (.int .i64) (.pair (.int .i64) (.int .i64))))).length = 3 := rfl
  rcases h.2 with ⟨_, h3⟩ | ⟨g, cap, cur, rfl, hb, hg, hc, hm, hs, ht⟩
  · omega
  · have key : ∀ i, i < 9 → W'.cell? ⟨g, i, none⟩ = some ((flatR (rs0 ++ rs1)).getD i undef) := by
      intro i hi
      have := h.cellAt i (by omega)
      rw [this, List.getD_eq_getElem?_getD]
      have hlt : i < (flatR (rs0 ++ rs1)).length := hi
      rw [List.getElem?_eq_getElem hlt]; rfl
    have hr := RelD.ro (w := W') (own := (Gh.frz W.heap.size).own) (bs := (Gh.frz W.heap.size).bs) true 3 ((rs0 ++ rs1).map (Ty.cells true (.pair (.int .i64) (.pair (.int .i64) (.int .i64))))) (some ⟨g, 0, none⟩) cap (fun i j => (flatR (rs0 ++ rs1)).getD (i * 3 + j) undef) hc hm (fun _ _ => by simp) (fun i row j a g1 g2 => ?_) (fun i row j a g1 g2 => ?_)
    · exact .dat hr
    · have hi : i < 3 := (List.getElem?_eq_some_iff.1 g1).1
      have hj : j < 3 := by
        rw [List.getElem?_map] at g1
        obtain ⟨x, _, e⟩ := Option.map_eq_some_iff.1 g1
        have := (List.getElem?_eq_some_iff.1 g2).1
        rw [← e, Ty.cells_length] at this
        exact this
      refine ⟨g, 0, rfl, fun h => by have h : g < W.heap.size := h; omega, fun _ => hb, ?_⟩
      rw [Nat.zero_add]
      exact key _ (by omega)
    · have hi : i < 3 := (List.getElem?_eq_some_iff.1 g1).1
      have hj : j < 3 := by
        rw [List.getElem?_map] at g1
        obtain ⟨x, _, e⟩ := Option.map_eq_some_iff.1 g1
        have := (List.getElem?_eq_some_iff.1 g2).1
        rw [← e, Ty.cells_length] at this
        exact this
      have hx : ∀ (i j : Nat) (row : List AV) (a : AV), i < 3 → j < 3 → ((rs0 ++ rs1).map (Ty.cells true (.pair (.int .i64) (.pair (.int .i64) (.int .i64)))))[i]? = some row → row[j]? = some a → ∃ n, a = .int .i64 n ∧ (flatR (rs0 ++ rs1)).getD (i * 3 + j) undef = .int .i64 n := by
        intro i j row a hi hj g1 g2
        match i, j, hi, hj, g1, g2 with
        | 0, 0, _, _, g1, g2 => simp [rs0, rs1, Ty.cells] at g1; subst g1; simp at g2; subst g2; exact ⟨_, rfl, rfl⟩
        | 0, 1, _, _, g1, g2 => simp [rs0, rs1, Ty.cells] at g1; subst g1; simp at g2; subst g2; exact ⟨_, rfl, rfl⟩
        | 0, 2, _, _, g1, g2 => simp [rs0, rs1, Ty.cells] at g1; subst g1; simp at g2; subst g2; exact ⟨_, rfl, rfl⟩
        | 1, 0, _, _, g1, g2 => simp [rs0, rs1, Ty.cells] at g1; subst g1; simp at g2; subst g2; exact ⟨_, rfl, rfl⟩
        | 1, 1, _, _, g1, g2 => simp [rs0, rs1, Ty.cells] at g1; subst g1; simp at g2; subst g2; exact ⟨_, rfl, rfl⟩
        | 1, 2, _, _, g1, g2 => simp [rs0, rs1, Ty.cells] at g1; subst g1; simp at g2; subst g2; exact ⟨_, rfl, rfl⟩
        | 2, 0, _, _, g1, g2 => simp [rs0, rs1, Ty.cells] at g1; subst g1; simp at g2; subst g2; exact ⟨_, rfl, rfl⟩
        | 2, 1, _, _, g1, g2 => simp [rs0, rs1, Ty.cells] at g1; subst g1; simp at g2; subst g2; exact ⟨_, rfl, rfl⟩
        | 2, 2, _, _, g1, g2 => simp [rs0, rs1, Ty.cells] at g1; subst g1; simp at g2; subst g2; exact ⟨_, rfl, rfl⟩
      obtain ⟨n, e1, e2⟩ := hx i j row a hi hj g1 g2
      subst e1
      show RelD _ _ _ _ ((flatR (rs0 ++ rs1)).getD (i * 3 + j) undef)
      rw [e2]
      exact .int .i64 n
theorem bitmap_Runs_ok : CtrOk Try.prog 66 bitmap_Runs_ctr := fun fu x y hy => by
  have hy : bitmap_Runs_r fu x = some y := hy
  unfold bitmap_Runs_r at hy
  split at hy
  · rename_i hx
    subst hx
    injection hy with hy
    subst hy
    refine ⟨fun W vs ha => ?_⟩
    obtain ⟨u, rfl⟩ : ∃ u, vs = #[u] := by
      have := ha.size
      obtain ⟨l⟩ := vs
      match l, this with
      | [u], _ => exact ⟨u, rfl⟩
    have h0 : RelV W (Gh.none W.heap.size) (.agg (Ty.cells false (.pair (.int .i64) (.pair (.int .i64) (.list (.int .u8)))) (5, (2, dots2)))) u := ha.rel 0 _ u rfl rfl
    rw [cells_bits] at h0
    obtain ⟨us, rfl, hsz, hr⟩ := h0.agg'
    obtain ⟨x0, x1, x2, rfl⟩ : ∃ x0 x1 x2, us = #[x0, x1, x2] := by
      obtain ⟨l⟩ := us
      match l, hsz with
      | [a, b, c], _ => exact ⟨a, b, c, rfl⟩
    have e0 := (hr 0 _ x0 rfl rfl).int'
    have e1 := (hr 1 _ x1 rfl rfl).int'
    obtain ⟨A, c, e2, hA⟩ := sl_of (hr 2 _ x2 rfl rfl)
    subst e0; subst e1; subst e2
    refine (callsIn_wide.1 (runs_calls hA)).mono ?_
    rintro e W' ⟨v, rfl, hown, hB⟩
    refine ⟨_, rfl, hB, ?_⟩
    refine .tup _ _ rfl fun i a v' ga gv => ?_
    match i, ga, gv with
    | 0, ga, gv =>
      have ga : some (AV.ro true 3 ((rs0 ++ rs1).map (Ty.cells true (.pair (.int .i64) (.pair (.int .i64) (.int .i64)))))) = some a := ga
      have gv : some v = some v' := gv
      injection ga with ga
      injection gv with gv
      subst ga; subst gv
      exact rows_ro hown
    | 1, ga, gv =>
      have ga : some (AV.int .i64 0) = some a := ga
      have gv : some (Value.int .i64 0) = some v' := gv
      injection ga with ga
      injection gv with gv
      subst ga; subst gv
      exact rI _ _ _ _
    | i + 2, ga, gv => simp at gv
  · cases hy
end Go.Proofs.Ytnbmldnahacnlaa
/- Residual programs of functions (printed by a program out of the code), checked by the kernel, and the contracts that follow. -/
namespace Go.Proofs.Ytnbmldnahacnlaa
open Go Go.RowKit
set_option linter.unusedVariables false
def law_bitmapWorks_r (fu : Nat) (a : Unit) : Option ((Bool) × (Unit)) :=
  bindO (bitmap_Set_r fu ((((10 : Int), ((1 : Int), ((0 : Int) :: ((0 : Int) :: ([] : List (Int)))))), ((9 : Int), ((0 : Int), (true, ())))))) fun v0 =>
  let v1 : Int := v0.2.1
  bindO (law_dots_r fu (())) fun v2 =>
  bindO (bitmap_Count_r fu (((v2.1.1, (v2.1.2.1, v2.1.2.2)), ()))) fun v3 =>
  let v4 : Int := v3.1
  let v5 : Int := v3.2.1
  bindO (law_dots_r fu (())) fun v6 =>
  bindO (bitmap_Turn_r fu (((v6.1.1, (v6.1.2.1, v6.1.2.2)), ((1 : Int), ())))) fun v7 =>
  let v8 : Int := v7.2.1
  bindO (law_dots_r fu (())) fun v9 =>
  bindO (bitmap_Runs_r fu (((v9.1.1, (v9.1.2.1, v9.1.2.2)), ()))) fun v10 =>
  let v11 : List ((Int) × ((Int) × (Int))) := v10.1
  let v12 : Int := v10.2.1
  bindO (law_dots_r fu (())) fun v13 =>
  bindO (bitmap_Spread_r fu (((v13.1.1, (v13.1.2.1, v13.1.2.2)), ((1 : Int), ())))) fun v14 =>
  let v15 : Int := v14.2.1
  bif (decide (v1 = (0 : Int))) then
    bindO (R_SameBytes_r fu ((v0.1.2.2, (((0 : Int) :: ((64 : Int) :: ([] : List (Int)))), ())))) fun v16 =>
    bif v16.1 then
      bif (decide (v5 = (0 : Int))) then
        bif (decide (v4 = (3 : Int))) then
          bif (decide (v8 = (0 : Int))) then
            bindO (R_SameBits_r fu (((v7.1.1, (v7.1.2.1, v7.1.2.2)), (((2 : Int), ((5 : Int), ((64 : Int) :: ((0 : Int) :: ((0 : Int) :: ((64 : Int) :: ((128 : Int) :: ([] : List (Int))))))))), ())))) fun v17 =>
            bif v17.1 then
              bif (decide (v12 = (0 : Int))) then
                bif (decide ((List.length v11 : Int) = (3 : Int))) then
                  bif (decide ((2 : Int) < (List.length v11 : Int))) then
                  let v18 : (Int) × ((Int) × (Int)) := (List.getD v11 (Int.toNat (2 : Int)) (0, (0, 0)))
                  bif ((decide (v18.1 = (1 : Int))) && ((decide (v18.2.1 = (4 : Int))) && (decide (v18.2.2 = (5 : Int))))) then
                    bif (decide (v15 = (0 : Int))) then
                      bindO (R_SameBytes_r fu ((v14.1.2.2, (((248 : Int) :: ((152 : Int) :: ([] : List (Int)))), ())))) fun v19 =>
                      let v20 : Bool := v19.1
                      some ((v20, ()))
                    else
                    some ((false, ()))
                  else
                  some ((false, ()))
                  else none
                else
                some ((false, ()))
              else
              some ((false, ()))
            else
            some ((false, ()))
          else
          some ((false, ()))
        else
        some ((false, ()))
      else
      some ((false, ()))
    else
    some ((false, ()))
  else
  some ((false, ()))
def law_bitmapWorks_an : An := (.n none .z (.n none .z (.n none .z (.n none .z (.n none .z (.n none .z (.n none .z .z)))))))
noncomputable def law_bitmapWorks_dc : List (Nat × Ctr) := [(19, R_SameBits_ctr), (34, bitmap_Spread_ctr), (35, bitmap_Turn_ctr), (40, bitmap_Set_ctr), (41, bitmap_Count_ctr), (59, R_SameBytes_ctr), (65, law_dots_ctr), (66, bitmap_Runs_ctr)]
def law_bitmapWorks_ctr : Ctr := ⟨.unit, (.pair .bool .unit), law_bitmapWorks_r, 33⟩
theorem law_bitmapWorks_ok : CtrOk Try.prog 33 law_bitmapWorks_ctr := ctr_ok (l := law_bitmapWorks_dc) (f := 12) (an := law_bitmapWorks_an) ⟨R_SameBits_ok, ⟨bitmap_Spread_ok, ⟨bitmap_Turn_ok, ⟨bitmap_Set_ok, ⟨bitmap_Count_ok, ⟨R_SameBytes_ok, ⟨law_dots_ok, ⟨bitmap_Runs_ok, trivial⟩⟩⟩⟩⟩⟩⟩⟩ fun fu x => by kernel_rfl
def law_BitmapPixels_j2 (fu : Nat) (v12 : (Int) × (Int)) (j12 : ((Int) × (Int)) → Option ((Bool) × (Unit))) (v13 : Int) : Option ((Bool) × (Unit)) :=
  j12 ((v13, (IntKind.i64.wrap (v12.2 + (1 : Int)))))
def law_BitmapPixels_j7 (fu : Nat) (a : ((Int) × ((Int) × (List (Int)))) × ((Int) × ((Int) × ((Bool) × (Unit))))) (v7 : ((Int) × ((Int) × (List (Int)))) × ((Int) × (Unit))) (v16 : Int) (j16 : (Int) → Option ((Bool) × (Unit))) (v19 : Bool) : Option ((Bool) × (Unit)) :=
  bif (decide (a.1.1 ≠ (0 : Int))) then
  bif (decide (a.1.1 ≠ (0 : Int))) then
  bindO (R_Bit_r fu (((v7.1.1, (v7.1.2.1, v7.1.2.2)), ((Int.tmod v16 a.1.1), ((IntKind.i64.wrap (Int.tdiv v16 a.1.1)), ()))))) fun v20 =>
  bif (v20.1 != v19) then
    some ((false, ()))
  else
  j16 ((IntKind.i64.wrap (v16 + (1 : Int))))
  else none
  else none
def law_BitmapPixels_l6 (fu : Nat) (a : ((Int) × ((Int) × (List (Int)))) × ((Int) × ((Int) × ((Bool) × (Unit))))) (v7 : ((Int) × ((Int) × (List (Int)))) × ((Int) × (Unit))) (j16 : (Int) → Option ((Bool) × (Unit))) (v16 : Int) : Option ((Bool) × (Unit)) :=
  bif (decide (v16 < (IntKind.i64.wrap (a.1.1 * a.1.2.1)))) then
    bif (decide (a.1.1 ≠ (0 : Int))) then
    bif (decide (a.1.1 ≠ (0 : Int))) then
    bindO (R_Bit_r fu (((a.1.1, (a.1.2.1, a.1.2.2)), ((Int.tmod v16 a.1.1), ((IntKind.i64.wrap (Int.tdiv v16 a.1.1)), ()))))) fun v17 =>
    let v18 : Bool := v17.1
    joinF (law_BitmapPixels_j7 fu a v7 v16 j16) fun j19 =>
    bif (decide (v16 = (IntKind.i64.wrap ((IntKind.i64.wrap (a.2.2.1 * a.1.1)) + a.2.1)))) then
      let v20 : Bool := a.2.2.2.1
      j19 (v20)
    else
    j19 (v18)
    else none
    else none
  else
  some ((true, ()))
def law_BitmapPixels_j5 (fu : Nat) (a : ((Int) × ((Int) × (List (Int)))) × ((Int) × ((Int) × ((Bool) × (Unit))))) (v7 : ((Int) × ((Int) × (List (Int)))) × ((Int) × (Unit))) (v15 : Bool) : Option ((Bool) × (Unit)) :=
  bif v15 then
    some ((false, ()))
  else
  loopF (law_BitmapPixels_l6 fu a v7) fu ((0 : Int))
def law_BitmapPixels_j4 (fu : Nat) (a : ((Int) × ((Int) × (List (Int)))) × ((Int) × ((Int) × ((Bool) × (Unit))))) (v5 : Bool) (v6 : Int) (v7 : ((Int) × ((Int) × (List (Int)))) × ((Int) × (Unit))) (v8 : Int) (v14 : Bool) : Option ((Bool) × (Unit)) :=
  bif v14 then
    bindO (law_none_r fu (((!v5), (v6, ((3 : Int), ()))))) fun v15 =>
    bif v15.1 then
      bindO (law_refused_r fu (((v7.1.1, (v7.1.2.1, v7.1.2.2)), (v8, ((3 : Int), ()))))) fun v16 =>
      let v17 : Bool := v16.1
      some ((v17, ()))
    else
    some ((false, ()))
  else
  joinF (law_BitmapPixels_j5 fu a v7) fun j15 =>
  bif (decide (v6 ≠ (0 : Int))) then
    j15 (true)
  else
  bindO (R_Bit_r fu (((a.1.1, (a.1.2.1, a.1.2.2)), (a.2.1, (a.2.2.1, ()))))) fun v16 =>
  bif (v5 != v16.1) then
    j15 (true)
  else
  bif (decide (v8 ≠ (0 : Int))) then
    j15 (true)
  else
  bindO (R_BitsErr_r fu (((v7.1.1, (v7.1.2.1, v7.1.2.2)), ()))) fun v17 =>
  bif (decide (v17.1 ≠ (0 : Int))) then
    j15 (true)
  else
  bif (decide (v7.1.1 ≠ a.1.1)) then
    j15 (true)
  else
  j15 ((decide (v7.1.2.1 ≠ a.1.2.1)))
def law_BitmapPixels_j3 (fu : Nat) (a : ((Int) × ((Int) × (List (Int)))) × ((Int) × ((Int) × ((Bool) × (Unit))))) (v5 : Bool) (v6 : Int) (v7 : ((Int) × ((Int) × (List (Int)))) × ((Int) × (Unit))) (v8 : Int) (v13 : Bool) : Option ((Bool) × (Unit)) :=
  bif v13 then
    some ((false, ()))
  else
  joinF (law_BitmapPixels_j4 fu a v5 v6 v7 v8) fun j14 =>
  bindO (R_Within_r fu ((a.2.1, ((0 : Int), ((IntKind.i64.wrap (a.1.1 - (1 : Int))), ()))))) fun v15 =>
  bif (!v15.1) then
    j14 (true)
  else
  bindO (R_Within_r fu ((a.2.2.1, ((0 : Int), ((IntKind.i64.wrap (a.1.2.1 - (1 : Int))), ()))))) fun v16 =>
  j14 ((!v16.1))
def law_BitmapPixels_l1 (fu : Nat) (a : ((Int) × ((Int) × (List (Int)))) × ((Int) × ((Int) × ((Bool) × (Unit))))) (v5 : Bool) (v6 : Int) (v7 : ((Int) × ((Int) × (List (Int)))) × ((Int) × (Unit))) (v8 : Int) (v10 : Int) (v11 : Int) (j12 : ((Int) × (Int)) → Option ((Bool) × (Unit))) (v12 : (Int) × (Int)) : Option ((Bool) × (Unit)) :=
  bif (decide (v12.2 < (IntKind.i64.wrap (a.1.1 * a.1.2.1)))) then
    joinF (law_BitmapPixels_j2 fu v12 j12) fun j13 =>
    let v14 : Int := v12.2
    bif (decide (a.1.1 ≠ (0 : Int))) then
    bif (decide (a.1.1 ≠ (0 : Int))) then
    bindO (R_Bit_r fu (((a.1.1, (a.1.2.1, a.1.2.2)), ((Int.tmod v14 a.1.1), ((IntKind.i64.wrap (Int.tdiv v14 a.1.1)), ()))))) fun v15 =>
    bif v15.1 then
      let v16 : Int := (IntKind.i64.wrap (v12.1 + (1 : Int)))
      j13 (v16)
    else
    j13 (v12.1)
    else none
    else none
  else
  joinF (law_BitmapPixels_j3 fu a v5 v6 v7 v8) fun j13 =>
  bif (decide (v11 ≠ (0 : Int))) then
    j13 (true)
  else
  j13 ((decide (v10 ≠ v12.1)))
def law_BitmapPixels_r (fu : Nat) (a : ((Int) × ((Int) × (List (Int)))) × ((Int) × ((Int) × ((Bool) × (Unit))))) : Option ((Bool) × (Unit)) :=
  bindO (law_bitmapWorks_r fu (())) fun v0 =>
  bif (!v0.1) then
    some ((false, ()))
  else
  bindO (R_BitsErr_r fu (((a.1.1, (a.1.2.1, a.1.2.2)), ()))) fun v1 =>
  let v2 : Int := v1.1
  bindO (bitmap_Check_r fu (((a.1.1, (a.1.2.1, a.1.2.2)), ()))) fun v3 =>
  bif (decide (v3.1 ≠ v2)) then
    some ((false, ()))
  else
  bindO (bitmap_Get_r fu (((a.1.1, (a.1.2.1, a.1.2.2)), (a.2.1, (a.2.2.1, ()))))) fun v4 =>
  let v5 : Bool := v4.1
  let v6 : Int := v4.2.1
  bindO (bitmap_Set_r fu (((a.1.1, (a.1.2.1, a.1.2.2)), (a.2.1, (a.2.2.1, (a.2.2.2.1, ())))))) fun v7 =>
  let v8 : Int := v7.2.1
  bindO (bitmap_Count_r fu (((a.1.1, (a.1.2.1, a.1.2.2)), ()))) fun v9 =>
  let v10 : Int := v9.1
  let v11 : Int := v9.2.1
  bif (decide (v2 ≠ (0 : Int))) then
    bindO (law_none_r fu (((!v5), (v6, (v2, ()))))) fun v12 =>
    bif v12.1 then
      bindO (law_refused_r fu (((v7.1.1, (v7.1.2.1, v7.1.2.2)), (v8, (v2, ()))))) fun v13 =>
      bif v13.1 then
        bindO (law_none_r fu (((decide (v10 = (0 : Int))), (v11, (v2, ()))))) fun v14 =>
        let v15 : Bool := v14.1
        some ((v15, ()))
      else
      some ((false, ()))
    else
    some ((false, ()))
  else
  loopF (law_BitmapPixels_l1 fu a v5 v6 v7 v8 v10 v11) fu (((0 : Int), (0 : Int)))
def law_BitmapPixels_an : An := (.n none .z (.n none (.n none .z (.n none (.n none .z .z) .z)) (.n none .z (.n none (.n none .z (.n none (.n none .z .z) .z)) (.n none .z (.n none .z (.n none .z (.n none (.n none .z (.n none (.n none .z .z) .z)) (.n none .z (.n none (.n none .z (.n none (.n (some ⟨[4, 12, 3, 1, 2, 13, 10, 11, 14, 15, 72, 8], [1, 0], [], [.reg 16 (.int .i64), .reg 73 (.int .i64)], 0, []⟩) (.n none .z (.n none .z (.n (some ⟨[73], [], [], [.reg 16 (.int .i64)], 0, []⟩) (.n none (.n none .z (.n none (.dr [] []) (.n none .z .z))) .z) .z))) .z) .z)) (.n none (.n (some ⟨[11, 10, 13, 2, 1, 3, 12, 4, 8], [1, 0], [], [.reg 95 .bool], 0, []⟩) .z (.n none (.n none .z .z) .z)) (.n none (.n (some ⟨[11, 10, 13, 2, 1, 3, 12, 4, 8], [0, 1], [], [.reg 109 .bool], 0, []⟩) .z (.n none (.n none .z .z) .z)) (.n none (.n (some ⟨[2, 1, 3, 12, 4, 8], [0, 1], [], [.reg 151 .bool], 0, []⟩) .z (.n none (.n none .z .z) .z)) (.n none (.n none .z (.n none (.n (some ⟨[2, 1, 3, 12, 4, 156], [1, 0], [], [.reg 157 (.int .i64)], 0, []⟩) (.n none .z (.n none .z (.n none (.n none (.n none .z (.n none (.dr [] []) (.n (some ⟨[18, 157], [], [], [.reg 19 .bool], 0, []⟩) (.n none .z (.n none .z .z)) (.n none (.dr [] []) (.n none (.n none .z .z) .z))))) .z) .z))) .z) .z)) (.n none .z .z)))))))))))))))
noncomputable def law_BitmapPixels_dc : List (Nat × Ctr) := [(17, R_Within_ctr), (18, law_refused_ctr), (21, R_BitsErr_ctr), (22, law_none_ctr), (24, R_Bit_ctr), (33, law_bitmapWorks_ctr), (38, bitmap_Check_ctr), (39, bitmap_Get_ctr), (40, bitmap_Set_ctr), (41, bitmap_Count_ctr)]
def law_BitmapPixels_ctr : Ctr := ⟨(.pair (.agg (.pair (.int .i64) (.pair (.int .i64) (.list (.int .u8))))) (.pair (.int .i64) (.pair (.int .i64) (.pair .bool .unit)))), (.pair .bool .unit), law_BitmapPixels_r, 7⟩
theorem law_BitmapPixels_ok : CtrOk Try.prog 7 law_BitmapPixels_ctr := ctr_ok (l := law_BitmapPixels_dc) (f := 12) (an := law_BitmapPixels_an) ⟨R_Within_ok, ⟨law_refused_ok, ⟨R_BitsErr_ok, ⟨law_none_ok, ⟨R_Bit_ok, ⟨law_bitmapWorks_ok, ⟨bitmap_Check_ok, ⟨bitmap_Get_ok, ⟨bitmap_Set_ok, ⟨bitmap_Count_ok, trivial⟩⟩⟩⟩⟩⟩⟩⟩⟩⟩ fun fu x => by kernel_rfl
def law_BitmapFromRuns_j4 (fu : Nat) (v4 : (Int) × (Int)) (j4 : ((Int) × (Int)) → Option ((Bool) × (Unit))) (v6 : Int) : Option ((Bool) × (Unit)) :=
  let v7 : Int := (IntKind.i64.wrap (v4.2 + (1 : Int)))
  j4 ((v6, v7))
def law_BitmapFromRuns_j6 (fu : Nat) (v4 : (Int) × (Int)) (j6 : (Int) → Option ((Bool) × (Unit))) (v9 : Bool) : Option ((Bool) × (Unit)) :=
  bif v9 then
    j6 ((18 : Int))
  else
  j6 (v4.1)
def law_BitmapFromRuns_j5 (fu : Nat) (a : (Int) × ((Int) × ((List ((Int) × ((Int) × (Int)))) × (Unit)))) (v4 : (Int) × (Int)) (v7 : (Int) × ((Int) × (Int))) (j6 : (Int) → Option ((Bool) × (Unit))) (v8 : Bool) : Option ((Bool) × (Unit)) :=
  bif v8 then
    j6 ((3 : Int))
  else
  joinF (law_BitmapFromRuns_j6 fu v4 j6) fun j9 =>
  bif (decide ((0 : Int) < v4.2)) then
    bif ((decide ((0 : Int) ≤ (IntKind.i64.wrap (v4.2 - (1 : Int))))) && (decide ((IntKind.i64.wrap (v4.2 - (1 : Int))) < (List.length a.2.2.1 : Int)))) then
    let v10 : (Int) × ((Int) × (Int)) := (List.getD a.2.2.1 (Int.toNat (IntKind.i64.wrap (v4.2 - (1 : Int)))) (0, (0, 0)))
    bif (decide (v7.1 < v10.1)) then
      j9 (true)
    else
    bif ((decide ((0 : Int) ≤ (IntKind.i64.wrap (v4.2 - (1 : Int))))) && (decide ((IntKind.i64.wrap (v4.2 - (1 : Int))) < (List.length a.2.2.1 : Int)))) then
    let v11 : (Int) × ((Int) × (Int)) := (List.getD a.2.2.1 (Int.toNat (IntKind.i64.wrap (v4.2 - (1 : Int)))) (0, (0, 0)))
    bif (decide (v7.1 = v11.1)) then
      bif ((decide ((0 : Int) ≤ (IntKind.i64.wrap (v4.2 - (1 : Int))))) && (decide ((IntKind.i64.wrap (v4.2 - (1 : Int))) < (List.length a.2.2.1 : Int)))) then
      let v12 : (Int) × ((Int) × (Int)) := (List.getD a.2.2.1 (Int.toNat (IntKind.i64.wrap (v4.2 - (1 : Int)))) (0, (0, 0)))
      let v13 : Bool := (decide (v7.2.1 ≤ v12.2.2))
      j9 (v13)
      else none
    else
    j9 (false)
    else none
    else none
  else
  j9 (false)
def law_BitmapFromRuns_l8 (fu : Nat) (a : (Int) × ((Int) × ((List ((Int) × ((Int) × (Int)))) × (Unit)))) (v6 : (Int) × (List (Bool))) (v7 : (Int) × ((Int) × (Int))) (j6 : ((Int) × (List (Bool))) → Option ((Bool) × (Unit))) (j9 : ((Int) × (List (Bool))) → Option ((Bool) × (Unit))) (v9 : (Int) × (List (Bool))) : Option ((Bool) × (Unit)) :=
  bif (decide (v9.1 < v7.2.2)) then
    bif ((decide ((0 : Int) ≤ (IntKind.i64.wrap ((IntKind.i64.wrap (v7.1 * a.1)) + v9.1)))) && (decide ((IntKind.i64.wrap ((IntKind.i64.wrap (v7.1 * a.1)) + v9.1)) < (List.length v9.2 : Int)))) then
    let v10 : Int := (IntKind.i64.wrap (v9.1 + (1 : Int)))
    j9 ((v10, (List.set v9.2 (Int.toNat (IntKind.i64.wrap ((IntKind.i64.wrap (v7.1 * a.1)) + v9.1))) true)))
    else none
  else
  j6 (((IntKind.i64.wrap (v6.1 + (1 : Int))), v9.2))
def law_BitmapFromRuns_l7 (fu : Nat) (a : (Int) × ((Int) × ((List ((Int) × ((Int) × (Int)))) × (Unit)))) (v1 : ((Int) × ((Int) × (List (Int)))) × ((Int) × (Unit))) (v2 : Int) (j6 : ((Int) × (List (Bool))) → Option ((Bool) × (Unit))) (v6 : (Int) × (List (Bool))) : Option ((Bool) × (Unit)) :=
  bif (decide (v6.1 < (List.length a.2.2.1 : Int))) then
    bif ((decide ((0 : Int) ≤ v6.1)) && (decide (v6.1 < (List.length a.2.2.1 : Int)))) then
    let v7 : (Int) × ((Int) × (Int)) := (List.getD a.2.2.1 (Int.toNat v6.1) (0, (0, 0)))
    let v8 : Int := v7.2.1
    loopF (law_BitmapFromRuns_l8 fu a v6 v7 j6) fu ((v8, v6.2))
    else none
  else
  bif (decide (v2 = (0 : Int))) then
    bindO (R_Drawn_r fu ((a.1, (a.2.1, (v6.2, ()))))) fun v7 =>
    bindO (R_SameBits_r fu (((v1.1.1, (v1.1.2.1, v1.1.2.2)), ((v7.1.1, (v7.1.2.1, v7.1.2.2)), ())))) fun v8 =>
    let v9 : Bool := v8.1
    some ((v9, ()))
  else
  some ((false, ()))
def law_BitmapFromRuns_j3 (fu : Nat) (a : (Int) × ((Int) × ((List ((Int) × ((Int) × (Int)))) × (Unit)))) (v1 : ((Int) × ((Int) × (List (Int)))) × ((Int) × (Unit))) (v2 : Int) (v4 : (Int) × (Int)) (j4 : ((Int) × (Int)) → Option ((Bool) × (Unit))) (v5 : Bool) : Option ((Bool) × (Unit)) :=
  bif v5 then
    joinF (law_BitmapFromRuns_j4 fu v4 j4) fun j6 =>
    bif ((decide ((0 : Int) ≤ v4.2)) && (decide (v4.2 < (List.length a.2.2.1 : Int)))) then
    let v7 : (Int) × ((Int) × (Int)) := (List.getD a.2.2.1 (Int.toNat v4.2) (0, (0, 0)))
    joinF (law_BitmapFromRuns_j5 fu a v4 v7 j6) fun j8 =>
    bindO (R_Within_r fu ((v7.1, ((0 : Int), ((IntKind.i64.wrap (a.2.1 - (1 : Int))), ()))))) fun v9 =>
    let v10 : Bool := (!v9.1)
    bif v10 then
      j8 (v10)
    else
    bindO (R_Within_r fu ((v7.2.1, ((0 : Int), ((IntKind.i64.wrap (a.1 - (1 : Int))), ()))))) fun v11 =>
    let v12 : Bool := (!v11.1)
    bif v12 then
      j8 (v12)
    else
    bindO (R_Within_r fu ((v7.2.2, ((1 : Int), (a.1, ()))))) fun v13 =>
    let v14 : Bool := (!v13.1)
    bif v14 then
      j8 (v14)
    else
    let v15 : Bool := (decide (v7.2.2 ≤ v7.2.1))
    j8 (v15)
    else none
  else
  bif (decide (v4.1 ≠ (0 : Int))) then
    bindO (law_refused_r fu (((v1.1.1, (v1.1.2.1, v1.1.2.2)), (v2, (v4.1, ()))))) fun v6 =>
    let v7 : Bool := v6.1
    some ((v7, ()))
  else
  bif ((decide ((0 : Int) ≤ (IntKind.i64.wrap (a.1 * a.2.1)))) && (decide (((1 : Int) * (IntKind.i64.wrap (a.1 * a.2.1))) ≤ (281474976710656 : Int)))) then
  loopF (law_BitmapFromRuns_l7 fu a v1 v2) fu (((0 : Int), (List.replicate (Int.toNat (IntKind.i64.wrap (a.1 * a.2.1))) false)))
  else none
def law_BitmapFromRuns_l2 (fu : Nat) (a : (Int) × ((Int) × ((List ((Int) × ((Int) × (Int)))) × (Unit)))) (v1 : ((Int) × ((Int) × (List (Int)))) × ((Int) × (Unit))) (v2 : Int) (j4 : ((Int) × (Int)) → Option ((Bool) × (Unit))) (v4 : (Int) × (Int)) : Option ((Bool) × (Unit)) :=
  joinF (law_BitmapFromRuns_j3 fu a v1 v2 v4 j4) fun j5 =>
  bif (decide (v4.2 < (List.length a.2.2.1 : Int))) then
    j5 ((decide (v4.1 = (0 : Int))))
  else
  j5 (false)
def law_BitmapFromRuns_j1 (fu : Nat) (a : (Int) × ((Int) × ((List ((Int) × ((Int) × (Int)))) × (Unit)))) (v1 : ((Int) × ((Int) × (List (Int)))) × ((Int) × (Unit))) (v2 : Int) (v3 : Int) : Option ((Bool) × (Unit)) :=
  loopF (law_BitmapFromRuns_l2 fu a v1 v2) fu ((v3, (0 : Int)))
def law_BitmapFromRuns_j9 (fu : Nat) (j3 : (Int) → Option ((Bool) × (Unit))) (v4 : Bool) : Option ((Bool) × (Unit)) :=
  bif v4 then
    j3 ((3 : Int))
  else
  j3 ((0 : Int))
def law_BitmapFromRuns_r (fu : Nat) (a : (Int) × ((Int) × ((List ((Int) × ((Int) × (Int)))) × (Unit)))) : Option ((Bool) × (Unit)) :=
  bindO (law_bitmapWorks_r fu (())) fun v0 =>
  bif (!v0.1) then
    some ((false, ()))
  else
  bindO (bitmap_FromRuns_r fu ((a.1, (a.2.1, (a.2.2.1, ()))))) fun v1 =>
  let v2 : Int := v1.2.1
  joinF (law_BitmapFromRuns_j1 fu a v1 v2) fun j3 =>
  joinF (law_BitmapFromRuns_j9 fu j3) fun j4 =>
  bindO (R_Within_r fu ((a.1, ((1 : Int), ((1024 : Int), ()))))) fun v5 =>
  bif (!v5.1) then
    j4 (true)
  else
  bindO (R_Within_r fu ((a.2.1, ((1 : Int), ((1024 : Int), ()))))) fun v6 =>
  j4 ((!v6.1))
def law_BitmapFromRuns_an : An := (.n none .z (.n none (.n none .z (.n none (.n none .z .z) .z)) (.n none .z (.n none .z (.n (some ⟨[8, 7, 0, 1, 2, 6], [0], [], [.reg 9 (.int .i64)], 0, []⟩) (.n (some ⟨[9], [], [], [.reg 32 .bool], 0, []⟩) .z (.n none .z .z)) (.n none (.n none .z (.n none (.n (some ⟨[], [], [], [.reg 9 (.int .i64), .reg 10 (.int .i64)], 0, []⟩) (.n none (.n (some ⟨[10, 9], [], [], [.reg 40 .bool], 0, []⟩) .z .z) (.n (some ⟨[10], [], [], [.reg 9 (.int .i64)], 0, []⟩) (.n none (.n none .z (.n none (.n (some ⟨[11, 9], [1], [], [.reg 47 .bool], 0, []⟩) (.n none .z (.n none .z (.n none .z (.n none .z (.n none .z (.n none .z .z)))))) (.n none .z (.n (some ⟨[], [], [], [.reg 70 .bool], 0, []⟩) (.dr [] []) (.n none .z .z)))) .z)) .z) .z)) .z) .z)) (.n none (.n none .z (.n none (.n none .z .z) .z)) (.n none .z (.n none (.n none .z (.n none (.n (some ⟨[12, 116, 117], [], [], [.reg 118 (.int .i64), .row 1 true .bool 4 0], 0, []⟩) (.n none .z (.n none .z (.n none (.n none (.n none .z (.n none .z (.n none (.n (some ⟨[118, 14], [2], [], [.reg 15 (.int .i64), .row 1 true .bool 4 0], 0, []⟩) (.n none (.n none .z .z) (.n none (.n none .z .z) .z)) .z) .z))) .z) .z))) .z) .z)) (.n none (.dr [] []) .z))))))))))
noncomputable def law_BitmapFromRuns_dc : List (Nat × Ctr) := [(17, R_Within_ctr), (18, law_refused_ctr), (19, R_SameBits_ctr), (20, R_Drawn_ctr), (33, law_bitmapWorks_ctr), (42, bitmap_FromRuns_ctr)]
def law_BitmapFromRuns_ctr : Ctr := ⟨(.pair (.int .i64) (.pair (.int .i64) (.pair (.list (.pair (.int .i64) (.pair (.int .i64) (.int .i64)))) .unit))), (.pair .bool .unit), law_BitmapFromRuns_r, 8⟩
theorem law_BitmapFromRuns_ok : CtrOk Try.prog 8 law_BitmapFromRuns_ctr := ctr_ok (l := law_BitmapFromRuns_dc) (f := 12) (an := law_BitmapFromRuns_an) ⟨R_Within_ok, ⟨law_refused_ok, ⟨R_SameBits_ok, ⟨R_Drawn_ok, ⟨law_bitmapWorks_ok, ⟨bitmap_FromRuns_ok, trivial⟩⟩⟩⟩⟩⟩ fun fu x => by kernel_rfl
def law_BitmapMoves_l3 (fu : Nat) (a : ((Int) × ((Int) × (List (Int)))) × ((Int) × ((Int) × ((Int) × ((Int) × (Unit)))))) (v3 : ((Int) × ((Int) × (List (Int)))) × ((Int) × (Unit))) (v4 : Int) (j10 : ((Int) × (List (Bool))) → Option ((Bool) × (Unit))) (v10 : (Int) × (List (Bool))) : Option ((Bool) × (Unit)) :=
  bif (decide (v10.1 < (List.length (List.replicate (Int.toNat (IntKind.i64.wrap (a.1.1 * a.1.2.1))) false) : Int))) then
    let v11 : Int := v10.1
    bif (decide (a.1.1 ≠ (0 : Int))) then
    bif (decide (a.1.1 ≠ (0 : Int))) then
    bindO (R_Bit_r fu (((a.1.1, (a.1.2.1, a.1.2.2)), ((IntKind.i64.wrap ((Int.tmod v11 a.1.1) - a.2.1)), ((IntKind.i64.wrap ((IntKind.i64.wrap (Int.tdiv v11 a.1.1)) - a.2.2.1)), ()))))) fun v12 =>
    bif ((decide ((0 : Int) ≤ v11)) && (decide (v11 < (List.length v10.2 : Int)))) then
    j10 (((IntKind.i64.wrap (v10.1 + (1 : Int))), (List.set v10.2 (Int.toNat v11) v12.1)))
    else none
    else none
    else none
  else
  bif (decide (v4 = (0 : Int))) then
    bindO (R_Drawn_r fu ((a.1.1, (a.1.2.1, (v10.2, ()))))) fun v11 =>
    bindO (R_SameBits_r fu (((v3.1.1, (v3.1.2.1, v3.1.2.2)), ((v11.1.1, (v11.1.2.1, v11.1.2.2)), ())))) fun v12 =>
    let v13 : Bool := v12.1
    some ((v13, ()))
  else
  some ((false, ()))
def law_BitmapMoves_j2 (fu : Nat) (a : ((Int) × ((Int) × (List (Int)))) × ((Int) × ((Int) × ((Int) × ((Int) × (Unit)))))) (v3 : ((Int) × ((Int) × (List (Int)))) × ((Int) × (Unit))) (v4 : Int) (v9 : Bool) : Option ((Bool) × (Unit)) :=
  bif v9 then
    bindO (law_refused_r fu (((v3.1.1, (v3.1.2.1, v3.1.2.2)), (v4, ((3 : Int), ()))))) fun v10 =>
    let v11 : Bool := v10.1
    some ((v11, ()))
  else
  bif ((decide ((0 : Int) ≤ (IntKind.i64.wrap (a.1.1 * a.1.2.1)))) && (decide (((1 : Int) * (IntKind.i64.wrap (a.1.1 * a.1.2.1))) ≤ (281474976710656 : Int)))) then
  loopF (law_BitmapMoves_l3 fu a v3 v4) fu (((0 : Int), (List.replicate (Int.toNat (IntKind.i64.wrap (a.1.1 * a.1.2.1))) false)))
  else none
def law_BitmapMoves_j1 (fu : Nat) (a : ((Int) × ((Int) × (List (Int)))) × ((Int) × ((Int) × ((Int) × ((Int) × (Unit)))))) (v3 : ((Int) × ((Int) × (List (Int)))) × ((Int) × (Unit))) (v4 : Int) (v8 : Unit) : Option ((Bool) × (Unit)) :=
  joinF (law_BitmapMoves_j2 fu a v3 v4) fun j9 =>
  bindO (R_Within_r fu ((a.2.1, ((-1024 : Int), ((1024 : Int), ()))))) fun v10 =>
  bif (!v10.1) then
    j9 (true)
  else
  bindO (R_Within_r fu ((a.2.2.1, ((-1024 : Int), ((1024 : Int), ()))))) fun v11 =>
  j9 ((!v11.1))
def law_BitmapMoves_j6 (fu : Nat) (j8 : (Unit) → Option ((Bool) × (Unit))) (v11 : Bool) : Option ((Bool) × (Unit)) :=
  bif v11 then
    some ((false, ()))
  else
  j8 (())
def law_BitmapMoves_l5 (fu : Nat) (a : ((Int) × ((Int) × (List (Int)))) × ((Int) × ((Int) × ((Int) × ((Int) × (Unit)))))) (v1 : ((Int) × ((Int) × (List (Int)))) × ((Int) × (Unit))) (v2 : Int) (j8 : (Unit) → Option ((Bool) × (Unit))) (j10 : ((Int) × (List (Bool))) → Option ((Bool) × (Unit))) (v10 : (Int) × (List (Bool))) : Option ((Bool) × (Unit)) :=
  bif (decide (v10.1 < (List.length (List.replicate (Int.toNat (IntKind.i64.wrap (a.2.2.2.1 * a.2.2.2.2.1))) false) : Int))) then
    let v11 : Int := v10.1
    bif (decide (a.2.2.2.1 ≠ (0 : Int))) then
    bif (decide (a.2.2.2.1 ≠ (0 : Int))) then
    bindO (R_Bit_r fu (((a.1.1, (a.1.2.1, a.1.2.2)), ((IntKind.i64.wrap (a.2.1 + (Int.tmod v11 a.2.2.2.1))), ((IntKind.i64.wrap (a.2.2.1 + (IntKind.i64.wrap (Int.tdiv v11 a.2.2.2.1)))), ()))))) fun v12 =>
    bif ((decide ((0 : Int) ≤ v11)) && (decide (v11 < (List.length v10.2 : Int)))) then
    j10 (((IntKind.i64.wrap (v10.1 + (1 : Int))), (List.set v10.2 (Int.toNat v11) v12.1)))
    else none
    else none
    else none
  else
  joinF (law_BitmapMoves_j6 fu j8) fun j11 =>
  bif (decide (v2 ≠ (0 : Int))) then
    j11 (true)
  else
  bindO (R_Drawn_r fu ((a.2.2.2.1, (a.2.2.2.2.1, (v10.2, ()))))) fun v12 =>
  bindO (R_SameBits_r fu (((v1.1.1, (v1.1.2.1, v1.1.2.2)), ((v12.1.1, (v12.1.2.1, v12.1.2.2)), ())))) fun v13 =>
  j11 ((!v13.1))
def law_BitmapMoves_j4 (fu : Nat) (a : ((Int) × ((Int) × (List (Int)))) × ((Int) × ((Int) × ((Int) × ((Int) × (Unit)))))) (v1 : ((Int) × ((Int) × (List (Int)))) × ((Int) × (Unit))) (v2 : Int) (j8 : (Unit) → Option ((Bool) × (Unit))) (v9 : Bool) : Option ((Bool) × (Unit)) :=
  bif v9 then
    bindO (law_refused_r fu (((v1.1.1, (v1.1.2.1, v1.1.2.2)), (v2, ((3 : Int), ()))))) fun v10 =>
    bif (!v10.1) then
      some ((false, ()))
    else
    j8 (())
  else
  bif ((decide ((0 : Int) ≤ (IntKind.i64.wrap (a.2.2.2.1 * a.2.2.2.2.1)))) && (decide (((1 : Int) * (IntKind.i64.wrap (a.2.2.2.1 * a.2.2.2.2.1))) ≤ (281474976710656 : Int)))) then
  loopF (law_BitmapMoves_l5 fu a v1 v2 j8) fu (((0 : Int), (List.replicate (Int.toNat (IntKind.i64.wrap (a.2.2.2.1 * a.2.2.2.2.1))) false)))
  else none
def law_BitmapMoves_r (fu : Nat) (a : ((Int) × ((Int) × (List (Int)))) × ((Int) × ((Int) × ((Int) × ((Int) × (Unit)))))) : Option ((Bool) × (Unit)) :=
  bindO (law_bitmapWorks_r fu (())) fun v0 =>
  bif (!v0.1) then
    some ((false, ()))
  else
  bindO (bitmap_Crop_r fu (((a.1.1, (a.1.2.1, a.1.2.2)), (a.2.1, (a.2.2.1, (a.2.2.2.1, (a.2.2.2.2.1, ()))))))) fun v1 =>
  let v2 : Int := v1.2.1
  bindO (bitmap_Shift_r fu (((a.1.1, (a.1.2.1, a.1.2.2)), (a.2.1, (a.2.2.1, ()))))) fun v3 =>
  let v4 : Int := v3.2.1
  bindO (R_BitsErr_r fu (((a.1.1, (a.1.2.1, a.1.2.2)), ()))) fun v5 =>
  let v6 : Int := v5.1
  bif (decide (v6 ≠ (0 : Int))) then
    bindO (law_refused_r fu (((v1.1.1, (v1.1.2.1, v1.1.2.2)), (v2, (v6, ()))))) fun v7 =>
    bif v7.1 then
      bindO (law_refused_r fu (((v3.1.1, (v3.1.2.1, v3.1.2.2)), (v4, (v6, ()))))) fun v8 =>
      let v9 : Bool := v8.1
      some ((v9, ()))
    else
    some ((false, ()))
  else
  bindO (law_big_r fu (((a.1.1, (a.1.2.1, a.1.2.2)), ()))) fun v7 =>
  bif v7.1 then
    some ((true, ()))
  else
  joinF (law_BitmapMoves_j1 fu a v3 v4) fun j8 =>
  joinF (law_BitmapMoves_j4 fu a v1 v2 j8) fun j9 =>
  bindO (R_Within_r fu ((a.2.2.2.1, ((1 : Int), (a.1.1, ()))))) fun v10 =>
  bif (!v10.1) then
    j9 (true)
  else
  bindO (R_Within_r fu ((a.2.2.2.2.1, ((1 : Int), (a.1.2.1, ()))))) fun v11 =>
  bif (!v11.1) then
    j9 (true)
  else
  bindO (R_Within_r fu ((a.2.1, ((0 : Int), ((IntKind.i64.wrap (a.1.1 - a.2.2.2.1)), ()))))) fun v12 =>
  bif (!v12.1) then
    j9 (true)
  else
  bindO (R_Within_r fu ((a.2.2.1, ((0 : Int), ((IntKind.i64.wrap (a.1.2.1 - a.2.2.2.2.1)), ()))))) fun v13 =>
  j9 ((!v13.1))
def law_BitmapMoves_an : An := (.n none .z (.n none (.n none .z (.n none (.n none .z .z) .z)) (.n none .z (.n none .z (.n none (.n none .z (.n none .z (.n none (.n none .z .z) .z))) (.n none (.n none .z (.n none (.n none .z .z) .z)) (.n (some ⟨[5, 13, 14, 1, 2], [0, 1, 2], [], [], 0, []⟩) (.n (some ⟨[4, 3, 11, 12, 10], [], [], [.reg 83 .bool], 0, []⟩) .z (.n none (.n none .z (.n none (.n none .z .z) .z)) (.n none .z (.n none (.n none .z (.n none (.n (some ⟨[16, 93], [], [], [.reg 94 (.int .i64), .row 3 true .bool 4 0], 0, []⟩) (.n none .z (.n none .z (.n none (.n none (.n none .z (.dr [] [])) .z) .z))) .z) .z)) (.n (some ⟨[], [3], [], [.reg 123 .bool], 0, []⟩) (.dr [] []) (.n none (.n none .z .z) .z)))))) (.n none (.n (some ⟨[], [], [], [.reg 131 .bool], 0, []⟩) .z (.n none (.n none .z .z) .z)) (.n none .z (.n none (.n none .z (.n none (.n (some ⟨[18, 142], [], [], [.reg 143 (.int .i64), .row 3 true .bool 4 0], 0, []⟩) (.n none .z (.n none .z (.n none (.n none (.n none .z (.dr [] [])) .z) .z))) .z) .z)) (.n none (.dr [] []) .z)))))))))))
noncomputable def law_BitmapMoves_dc : List (Nat × Ctr) := [(17, R_Within_ctr), (18, law_refused_ctr), (19, R_SameBits_ctr), (20, R_Drawn_ctr), (21, R_BitsErr_ctr), (23, law_big_ctr), (24, R_Bit_ctr), (33, law_bitmapWorks_ctr), (43, bitmap_Crop_ctr), (44, bitmap_Shift_ctr)]
def law_BitmapMoves_ctr : Ctr := ⟨(.pair (.agg (.pair (.int .i64) (.pair (.int .i64) (.list (.int .u8))))) (.pair (.int .i64) (.pair (.int .i64) (.pair (.int .i64) (.pair (.int .i64) .unit))))), (.pair .bool .unit), law_BitmapMoves_r, 9⟩
theorem law_BitmapMoves_ok : CtrOk Try.prog 9 law_BitmapMoves_ctr := ctr_ok (l := law_BitmapMoves_dc) (f := 12) (an := law_BitmapMoves_an) ⟨R_Within_ok, ⟨law_refused_ok, ⟨R_SameBits_ok, ⟨R_Drawn_ok, ⟨R_BitsErr_ok, ⟨law_big_ok, ⟨R_Bit_ok, ⟨law_bitmapWorks_ok, ⟨bitmap_Crop_ok, ⟨bitmap_Shift_ok, trivial⟩⟩⟩⟩⟩⟩⟩⟩⟩⟩ fun fu x => by kernel_rfl
def law_BitmapGrowth_l2 (fu : Nat) (a : ((Int) × ((Int) × (List (Int)))) × ((Int) × ((Int) × (Unit)))) (v1 : ((Int) × ((Int) × (List (Int)))) × ((Int) × (Unit))) (v2 : Int) (j10 : ((Int) × (List (Bool))) → Option ((Bool) × (Unit))) (v10 : (Int) × (List (Bool))) : Option ((Bool) × (Unit)) :=
  bif (decide (v10.1 < (List.length (List.replicate (Int.toNat (IntKind.i64.wrap (a.1.1 * a.1.2.1))) false) : Int))) then
    let v11 : Int := v10.1
    bif (decide (a.1.1 ≠ (0 : Int))) then
    bif (decide (a.1.1 ≠ (0 : Int))) then
    bindO (R_Spread_r fu (((a.1.1, (a.1.2.1, a.1.2.2)), ((Int.tmod v11 a.1.1), ((IntKind.i64.wrap (Int.tdiv v11 a.1.1)), (a.2.1, ())))))) fun v12 =>
    bif ((decide ((0 : Int) ≤ v11)) && (decide (v11 < (List.length v10.2 : Int)))) then
    j10 (((IntKind.i64.wrap (v10.1 + (1 : Int))), (List.set v10.2 (Int.toNat v11) v12.1)))
    else none
    else none
    else none
  else
  bif (decide (v2 = (0 : Int))) then
    bindO (R_Drawn_r fu ((a.1.1, (a.1.2.1, (v10.2, ()))))) fun v11 =>
    bindO (R_SameBits_r fu (((v1.1.1, (v1.1.2.1, v1.1.2.2)), ((v11.1.1, (v11.1.2.1, v11.1.2.2)), ())))) fun v12 =>
    let v13 : Bool := v12.1
    some ((v13, ()))
  else
  some ((false, ()))
def law_BitmapGrowth_j1 (fu : Nat) (a : ((Int) × ((Int) × (List (Int)))) × ((Int) × ((Int) × (Unit)))) (v1 : ((Int) × ((Int) × (List (Int)))) × ((Int) × (Unit))) (v2 : Int) (v8 : Unit) : Option ((Bool) × (Unit)) :=
  bindO (R_Within_r fu ((a.2.1, ((0 : Int), ((16 : Int), ()))))) fun v9 =>
  bif (!v9.1) then
    bindO (law_refused_r fu (((v1.1.1, (v1.1.2.1, v1.1.2.2)), (v2, ((3 : Int), ()))))) fun v10 =>
    let v11 : Bool := v10.1
    some ((v11, ()))
  else
  bif ((decide ((0 : Int) ≤ (IntKind.i64.wrap (a.1.1 * a.1.2.1)))) && (decide (((1 : Int) * (IntKind.i64.wrap (a.1.1 * a.1.2.1))) ≤ (281474976710656 : Int)))) then
  loopF (law_BitmapGrowth_l2 fu a v1 v2) fu (((0 : Int), (List.replicate (Int.toNat (IntKind.i64.wrap (a.1.1 * a.1.2.1))) false)))
  else none
def law_BitmapGrowth_j3 (fu : Nat) (j8 : (Unit) → Option ((Bool) × (Unit))) (v10 : Bool) : Option ((Bool) × (Unit)) :=
  bif v10 then
    some ((false, ()))
  else
  j8 (())
def law_BitmapGrowth_r (fu : Nat) (a : ((Int) × ((Int) × (List (Int)))) × ((Int) × ((Int) × (Unit)))) : Option ((Bool) × (Unit)) :=
  bindO (law_bitmapWorks_r fu (())) fun v0 =>
  bif (!v0.1) then
    some ((false, ()))
  else
  bindO (bitmap_Spread_r fu (((a.1.1, (a.1.2.1, a.1.2.2)), (a.2.1, ())))) fun v1 =>
  let v2 : Int := v1.2.1
  bindO (bitmap_Turn_r fu (((a.1.1, (a.1.2.1, a.1.2.2)), (a.2.2.1, ())))) fun v3 =>
  let v4 : Int := v3.2.1
  bindO (R_BitsErr_r fu (((a.1.1, (a.1.2.1, a.1.2.2)), ()))) fun v5 =>
  let v6 : Int := v5.1
  bif (decide (v6 ≠ (0 : Int))) then
    bindO (law_refused_r fu (((v1.1.1, (v1.1.2.1, v1.1.2.2)), (v2, (v6, ()))))) fun v7 =>
    bif v7.1 then
      bindO (law_refused_r fu (((v3.1.1, (v3.1.2.1, v3.1.2.2)), (v4, (v6, ()))))) fun v8 =>
      let v9 : Bool := v8.1
      some ((v9, ()))
    else
    some ((false, ()))
  else
  bindO (law_big_r fu (((a.1.1, (a.1.2.1, a.1.2.2)), ()))) fun v7 =>
  bif v7.1 then
    some ((true, ()))
  else
  joinF (law_BitmapGrowth_j1 fu a v1 v2) fun j8 =>
  bindO (R_Within_r fu ((a.2.2.1, ((0 : Int), ((7 : Int), ()))))) fun v9 =>
  bif (!v9.1) then
    bindO (law_refused_r fu (((v3.1.1, (v3.1.2.1, v3.1.2.2)), (v4, ((3 : Int), ()))))) fun v10 =>
    bif (!v10.1) then
      some ((false, ()))
    else
    j8 (())
  else
  joinF (law_BitmapGrowth_j3 fu j8) fun j10 =>
  bif (decide (v4 ≠ (0 : Int))) then
    j10 (true)
  else
  bindO (R_Turned_r fu (((a.1.1, (a.1.2.1, a.1.2.2)), (a.2.2.1, ())))) fun v11 =>
  bindO (R_SameBits_r fu (((v3.1.1, (v3.1.2.1, v3.1.2.2)), ((v11.1.1, (v11.1.2.1, v11.1.2.2)), ())))) fun v12 =>
  j10 ((!v12.1))
def law_BitmapGrowth_an : An := (.n none .z (.n none (.n none .z (.n none (.n none .z .z) .z)) (.n none .z (.n none .z (.n none (.n none .z (.n none .z (.n none (.n none .z .z) .z))) (.n none (.n none .z (.n none (.n none .z .z) .z)) (.n (some ⟨[3, 7, 8, 1], [0, 1, 2], [], [], 0, []⟩) (.n none .z (.n none (.n none .z (.n none (.n none .z .z) .z)) (.n (some ⟨[6], [], [], [.reg 60 .bool], 0, []⟩) (.dr [] []) (.n none (.n none .z .z) .z)))) (.n none (.n none .z (.n none (.n none .z .z) .z)) (.n none .z (.n none (.n none .z (.n none (.n (some ⟨[12, 74], [], [], [.reg 75 (.int .i64), .row 3 true .bool 4 0], 0, []⟩) (.n none .z (.n none .z (.n none (.n none (.n none .z (.dr [] [])) .z) .z))) .z) .z)) (.n none (.dr [] []) .z)))))))))))
noncomputable def law_BitmapGrowth_dc : List (Nat × Ctr) := [(17, R_Within_ctr), (18, law_refused_ctr), (19, R_SameBits_ctr), (20, R_Drawn_ctr), (21, R_BitsErr_ctr), (23, law_big_ctr), (33, law_bitmapWorks_ctr), (34, bitmap_Spread_ctr), (35, bitmap_Turn_ctr), (36, R_Turned_ctr), (37, R_Spread_ctr)]
def law_BitmapGrowth_ctr : Ctr := ⟨(.pair (.agg (.pair (.int .i64) (.pair (.int .i64) (.list (.int .u8))))) (.pair (.int .i64) (.pair (.int .i64) .unit))), (.pair .bool .unit), law_BitmapGrowth_r, 6⟩
theorem law_BitmapGrowth_ok : CtrOk Try.prog 6 law_BitmapGrowth_ctr := ctr_ok (l := law_BitmapGrowth_dc) (f := 12) (an := law_BitmapGrowth_an) ⟨R_Within_ok, ⟨law_refused_ok, ⟨R_SameBits_ok, ⟨R_Drawn_ok, ⟨R_BitsErr_ok, ⟨law_big_ok, ⟨law_bitmapWorks_ok, ⟨bitmap_Spread_ok, ⟨bitmap_Turn_ok, ⟨R_Turned_ok, ⟨R_Spread_ok, trivial⟩⟩⟩⟩⟩⟩⟩⟩⟩⟩⟩ fun fu x => by kernel_rfl
end Go.Proofs.Ytnbmldnahacnlaa
/- BitmapMoves: what the law computes. -/
namespace Go.Proofs.Ytnbmldnahacnlaa
open Go Go.RowKit

theorem pix_out {w h x y : Int} {ds : List Int} (g : ¬ (0 ≤ x ∧ x < w ∧ 0 ≤ y ∧ y < h)) : pixB w h ds x y = false := by
  unfold pixB
  rw [decide_eq_false g]; rfl
theorem bitsE_dim {w h : Int} {ds : List Int} (h0 : bitsE w h ds = 0) : 1 ≤ w ∧ w ≤ 1024 ∧ 1 ≤ h ∧ h ≤ 1024 ∧ (ds.length : Int) = strd w * h := by
  unfold bitsE at h0
  split at h0
  · rename_i hr
    split at h0
    · rename_i hl
      refine ⟨hr.1, hr.2.1, hr.2.2.1, hr.2.2.2, ?_⟩
      rw [hl, strd_N (by omega), Int.natCast_mul, Int.toNat_of_nonneg (by omega : 0 ≤ h)]
    · omega
  · omega
section
variable {β : Type}
/-- pixels of a picture asked one by one, into a list -/
def onF (n : Nat) (w : Int) (cl : Int → Option (Bool × Unit)) (out : List Bool → Option β) (j : Int × List Bool → Option β) (v : Int × List Bool) : Option β :=
  bif (decide (v.1 < (List.length (List.replicate n false) : Int))) then
    bif (decide (w ≠ (0 : Int))) then
    bif (decide (w ≠ (0 : Int))) then
    bindO (cl v.1) fun b =>
    bif ((decide ((0 : Int) ≤ v.1)) && (decide (v.1 < (List.length v.2 : Int)))) then
    j (((IntKind.i64.wrap (v.1 + (1 : Int))), (List.set v.2 (Int.toNat v.1) b.1)))
    else none
    else none
    else none
  else
  out v.2
/-- the list of a picture's pixels -/
def onL (n : Nat) (G : Int → Bool) : List Bool := (List.range n).map fun i : Nat => G (i : Int)
theorem onL_length (n : Nat) (G : Int → Bool) : (onL n G).length = n := by rw [onL, List.length_map, List.length_range]
theorem onL_getD {n : Nat} {G : Int → Bool} {i : Int} (h0 : 0 ≤ i) (h1 : i < n) : (onL n G).getD i.toNat false = G i := by
  have hi : i.toNat < n := by omega
  have : (onL n G)[i.toNat]? = some (G i) := by
    unfold onL
    rw [List.getElem?_map, List.getElem?_range hi, Option.map_some, Int.toNat_of_nonneg h0]
  rw [List.getD_eq_getElem?_getD, this, Option.getD_some]
theorem onF_spec {fu : Nat} (hf : 18446744073709551616 ≤ fu) {n : Nat} (hn : n ≤ 1048576) {w : Int} (hw : w ≠ 0) {cl : Int → Option (Bool × Unit)} {out : List Bool → Option β} {G : Int → Bool} (hcl : ∀ i : Int, 0 ≤ i → i < (n : Int) → cl i = some (G i, ())) :
    loopF (onF n w cl out) fu (0, List.replicate n false) = out (onL n G) := by
  refine loopF_spec (fun v : Int × List Bool => ((n : Int) - v.1).toNat) (fun v => 0 ≤ v.1 ∧ v.1 ≤ (n : Int) ∧ v.2 = onL n (fun i => G i && decide (i < v.1))) (fun _ => out (onL n G)) ?_ fu (0, _) ⟨by omega, by simp only; omega, ?_⟩ (by simp only; omega)
  · rintro j ⟨i, ds⟩ ⟨h0, h1, hd⟩ ih
    simp only at h0 h1 hd
    unfold onF
    simp only [List.length_replicate]
    by_cases hi : i < n
    · rw [bif_pos hi, bif_pos hw, bif_pos hw, hcl i h0 hi, bindO_some]
      have hl : ds.length = n := by rw [hd, onL_length]
      rw [bif_and h0 (by omega), wr64 (x := i + 1) (by omega) (by omega)]
      refine ih (i + 1, _) ⟨by simp only; omega, by simp only; omega, ?_⟩ (by simp only; omega)
      simp only
      refine List.ext_getElem (by rw [List.length_set, hl, onL_length]) fun k h1' h2' => ?_
      rw [List.getElem_set]
      have hk : k < n := by rw [onL_length] at h2'; exact h2'
      have get : ∀ (G' : Int → Bool) (hh : k < (onL n G').length), (onL n G')[k] = G' k := by
        intro G' hh
        simp only [onL, List.getElem_map, List.getElem_range]
      rw [get]
      split
      · rename_i e
        subst e
        rw [Int.toNat_of_nonneg h0, decide_eq_true (by omega), Bool.and_true]
      · rename_i e
        have hdk : ds[k]'(by omega) = (G k && decide ((k : Int) < i)) := by
          have : ds[k]? = some (G k && decide ((k : Int) < i)) := by rw [hd, List.getElem?_eq_getElem (by rw [onL_length]; exact hk), get]
          rw [List.getElem?_eq_getElem (by omega)] at this
          injection this
        rw [hdk]
        have g2 : decide ((k : Int) < i) = decide ((k : Int) < i + 1) := by
          by_cases q : (k : Int) < i
          · rw [decide_eq_true q, decide_eq_true (by omega)]
          · rw [decide_eq_false q, decide_eq_false (by omega)]
        rw [g2]
    · rw [bif_neg hi, hd]
      congr 1
      unfold onL
      refine List.map_congr_left fun k hk => ?_
      have := List.mem_range.1 hk
      simp only
      rw [decide_eq_true (by omega), Bool.and_true]
  · refine List.ext_getElem (by rw [List.length_replicate, onL_length]) fun k h1' h2' => ?_
    simp only [onL, List.getElem_map, List.getElem_range, List.getElem_replicate]
    rw [decide_eq_false (by omega), Bool.and_false]
end
/-- a drawn list of pixels is the picture -/
theorem drawn_on {fu : Nat} (hf : 18446744073709551616 ≤ fu) {w h : Int} {F : Int → Int → Bool} (hw0 : 0 < w) (hw1 : w ≤ 1024) (hh0 : 0 < h) (hh1 : h ≤ 1024) :
    R_Drawn_r fu (w, (h, (onL (w * h).toNat (fun i => F (i % w) (i / w)), ()))) = some ((w, (h, canon w h F)), ()) := by
  have hwh : 0 < w * h := Int.mul_pos hw0 hh0
  rw [drawn_r hf hw0 hw1 hh0 hh1 (by rw [onL_length]; omega)]
  congr 4
  refine canon_congr hw0 fun x y hx hx1 hy hy1 => ?_
  have h1 := Int.mul_nonneg hy (by omega : 0 ≤ w)
  have h2 : y * w ≤ (h - 1) * w := Int.mul_le_mul_of_nonneg_right (by omega) (by omega)
  have e2 : (h - 1) * w = w * h - w := by rw [Int.sub_mul, Int.one_mul, Int.mul_comm]
  rw [onL_getD (by omega) (by omega), (div_of hx hx1).1, (div_of hx hx1).2]
section
variable {fu : Nat} (hf : 18446744073709551616 ≤ fu) {w h : Int} {ds : List Int} (hb : Bytes ds)
include hf hb
theorem crop_bad {x y cw ch : Int} (h0 : bitsE w h ds ≠ 0) : bitmap_Crop_r fu ((w, (h, ds)), (x, (y, (cw, (ch, ()))))) = some ((0, (0, [])), (bitsE w h ds, ())) := by
  unfold bitmap_Crop_r
  simp only
  rw [check_r hf hb, bindO_some]
  simp only
  rw [bif_pos h0]
theorem shift_bad {x y : Int} (h0 : bitsE w h ds ≠ 0) : bitmap_Shift_r fu ((w, (h, ds)), (x, (y, ()))) = some ((0, (0, [])), (bitsE w h ds, ())) := by
  unfold bitmap_Shift_r
  simp only
  rw [check_r hf hb, bindO_some]
  simp only
  rw [bif_pos h0]
def cropOk (w h x y cw ch : Int) : Prop := 1 ≤ cw ∧ cw ≤ w ∧ 1 ≤ ch ∧ ch ≤ h ∧ 0 ≤ x ∧ x ≤ w - cw ∧ 0 ≤ y ∧ y ≤ h - ch
theorem crop_out {x y cw ch : Int} (h0 : bitsE w h ds = 0) (hn : ¬ cropOk w h x y cw ch) : bitmap_Crop_r fu ((w, (h, ds)), (x, (y, (cw, (ch, ()))))) = some ((0, (0, [])), (3, ())) := by
  obtain ⟨d1, d2, d3, d4, d5⟩ := bitsE_dim h0
  unfold bitmap_Crop_r
  simp only
  rw [check_r hf hb, bindO_some]
  simp only [joinF_eq]
  rw [bif_neg (by omega)]
  have j : bitmap_Crop_j1 fu ((w, (h, ds)), (x, (y, (cw, (ch, ()))))) true = some ((0, (0, [])), (3, ())) := by unfold bitmap_Crop_j1; rfl
  unfold cropOk at hn
  by_cases c1 : cw < 1
  · rw [bif_pos c1, j]
  by_cases c2 : w < cw
  · rw [bif_neg c1, bif_pos c2, j]
  by_cases c3 : ch < 1
  · rw [bif_neg c1, bif_neg c2, bif_pos c3, j]
  by_cases c4 : h < ch
  · rw [bif_neg c1, bif_neg c2, bif_neg c3, bif_pos c4, j]
  rw [wr64 (x := w - cw) (by omega) (by omega), wr64 (x := h - ch) (by omega) (by omega)]
  by_cases c5 : x < 0
  · rw [bif_neg c1, bif_neg c2, bif_neg c3, bif_neg c4, bif_pos c5, j]
  by_cases c6 : w - cw < x
  · rw [bif_neg c1, bif_neg c2, bif_neg c3, bif_neg c4, bif_neg c5, bif_pos c6, j]
  by_cases c7 : y < 0
  · rw [bif_neg c1, bif_neg c2, bif_neg c3, bif_neg c4, bif_neg c5, bif_neg c6, bif_pos c7, j]
  · rw [bif_neg c1, bif_neg c2, bif_neg c3, bif_neg c4, bif_neg c5, bif_neg c6, bif_neg c7, decide_eq_true (by omega), j]
theorem crop_in {x y cw ch : Int} (h0 : bitsE w h ds = 0) (hn : cropOk w h x y cw ch) : bitmap_Crop_r fu ((w, (h, ds)), (x, (y, (cw, (ch, ()))))) = some ((cw, (ch, canon cw ch (fun a b => pixB w h ds (x + a) (y + b)))), (0, ())) := by
  obtain ⟨d1, d2, d3, d4, d5⟩ := bitsE_dim h0
  unfold cropOk at hn
  unfold bitmap_Crop_r
  simp only
  rw [check_r hf hb, bindO_some]
  simp only [joinF_eq]
  rw [bif_neg (by omega), wr64 (x := w - cw) (by omega) (by omega), wr64 (x := h - ch) (by omega) (by omega)]
  rw [bif_neg (by omega), bif_neg (by omega), bif_neg (by omega), bif_neg (by omega), bif_neg (by omega), bif_neg (by omega), bif_neg (by omega), decide_eq_false (by omega), crop_eq]
  refine fromA_spec hf (F := fun a b => pixB w h ds (x + a) (y + b)) (by simp only; omega) (by simp only; omega) (by simp only; omega) (by simp only; omega) fun a b ha ha1 hb0 hb1 => ?_
  simp only at ha ha1 hb0 hb1 ⊢
  rw [wr64 (x := x + a) (by omega) (by omega), wr64 (x := y + b) (by omega) (by omega), is_r fu (by omega) d2 d4 d5 hb]
theorem shift_out {x y : Int} (h0 : bitsE w h ds = 0) (hn : ¬ (-1024 ≤ x ∧ x ≤ 1024 ∧ -1024 ≤ y ∧ y ≤ 1024)) : bitmap_Shift_r fu ((w, (h, ds)), (x, (y, ()))) = some ((0, (0, [])), (3, ())) := by
  unfold bitmap_Shift_r
  simp only
  rw [check_r hf hb, bindO_some]
  simp only [joinF_eq]
  rw [bif_neg (by omega)]
  have j : bitmap_Shift_j1 fu ((w, (h, ds)), (x, (y, ()))) true = some ((0, (0, [])), (3, ())) := by unfold bitmap_Shift_j1; rfl
  by_cases c1 : x < -1024
  · rw [bif_pos c1, j]
  by_cases c2 : 1024 < x
  · rw [bif_neg c1, bif_pos c2, j]
  by_cases c3 : y < -1024
  · rw [bif_neg c1, bif_neg c2, bif_pos c3, j]
  · rw [bif_neg c1, bif_neg c2, bif_neg c3, decide_eq_true (by omega), j]
theorem moved_in {x y : Int} (h0 : bitsE w h ds = 0) (hn : -1024 ≤ x ∧ x ≤ 1024 ∧ -1024 ≤ y ∧ y ≤ 1024) : bitmap_Moved_r fu ((w, (h, ds)), (x, (y, ()))) = some ((w, (h, canon w h (fun a b => pixB w h ds (a - x) (b - y)))), ()) := by
  obtain ⟨d1, d2, d3, d4, d5⟩ := bitsE_dim h0
  rw [moved_eq]
  refine fromA_spec hf (F := fun a b => pixB w h ds (a - x) (b - y)) (by simp only; omega) d2 (by simp only; omega) d4 fun a b ha ha1 hb0 hb1 => ?_
  simp only at ha ha1 hb0 hb1 ⊢
  rw [wr64 (x := a - x) (by omega) (by omega), wr64 (x := b - y) (by omega) (by omega), is_r fu (by omega) d2 d4 d5 hb]
theorem shift_in {x y : Int} (h0 : bitsE w h ds = 0) (hn : -1024 ≤ x ∧ x ≤ 1024 ∧ -1024 ≤ y ∧ y ≤ 1024) : bitmap_Shift_r fu ((w, (h, ds)), (x, (y, ()))) = some ((w, (h, canon w h (fun a b => pixB w h ds (a - x) (b - y)))), (0, ())) := by
  unfold bitmap_Shift_r
  simp only
  rw [check_r hf hb, bindO_some]
  simp only [joinF_eq]
  rw [bif_neg (by omega), bif_neg (by omega), bif_neg (by omega), bif_neg (by omega), decide_eq_false (by omega)]
  unfold bitmap_Shift_j1
  simp only [cond_false]
  rw [moved_in hf hb h0 hn, bindO_some]
end
section
variable {fu : Nat} (hf : 18446744073709551616 ≤ fu) {w h x y cw ch : Int} {ds : List Int} (hb : Bytes ds)
include hf hb
/-- the second half -/
theorem moves_j1 (h0 : bitsE w h ds = 0) {s : (Int × Int × List Int) × Int × Unit} (hs : bitmap_Shift_r fu ((w, (h, ds)), (x, (y, ()))) = some s) : law_BitmapMoves_j1 fu ((w, (h, ds)), (x, (y, (cw, (ch, ()))))) s s.2.1 () = some (true, ()) := by
  obtain ⟨d1, d2, d3, d4, d5⟩ := bitsE_dim h0
  have hwh : 0 < w * h := Int.mul_pos (by omega) (by omega)
  have hwh2 : w * h ≤ 1048576 := by
    have := Int.mul_le_mul d2 d4 (by omega : 0 ≤ h) (by omega : (0 : Int) ≤ 1024)
    omega
  unfold law_BitmapMoves_j1
  simp only [joinF_eq]
  rw [within_r, bindO_some, within_r, bindO_some]
  by_cases c : -1024 ≤ x ∧ x ≤ 1024 ∧ -1024 ≤ y ∧ y ≤ 1024
  · obtain ⟨c1, c2, c3, c4⟩ := c
    rw [shift_in hf hb h0 ⟨c1, c2, c3, c4⟩] at hs
    injection hs with hs
    subst hs
    rw [decide_eq_true c1, decide_eq_true c2, decide_eq_true c3, decide_eq_true c4]
    show law_BitmapMoves_j2 fu _ _ _ false = _
    unfold law_BitmapMoves_j2
    simp only [cond_false]
    have ewh : IntKind.i64.wrap (w * h) = w * h := wr64 (x := w * h) (by omega) (by omega)
    rw [bif_and (by rw [ewh]; omega) (by rw [ewh]; omega)]
    refine (onF_spec hf (n := (IntKind.i64.wrap (w * h)).toNat) (by rw [ewh]; omega) (w := w) (by omega) (G := fun i => pixB w h ds (i % w - x) (i / w - y))
      (cl := fun i => R_Bit_r fu (((w, (h, ds)), ((IntKind.i64.wrap ((Int.tmod i w) - x)), ((IntKind.i64.wrap ((IntKind.i64.wrap (Int.tdiv i w)) - y)), ())))))
      (out := fun on => bif decide ((0 : Int) = 0) then (bindO (R_Drawn_r fu ((w, (h, (on, ()))))) fun v11 => bindO (R_SameBits_r fu (((w, (h, canon w h (fun a b => pixB w h ds (a - x) (b - y)))), ((v11.1.1, (v11.1.2.1, v11.1.2.2)), ())))) fun v12 => some ((v12.1, ()))) else some (false, ())) ?_).trans ?_
    · intro i hi0 hi1
      rw [ewh] at hi1
      have hx0 : 0 ≤ i % w := Int.emod_nonneg _ (by omega)
      have hx1 : i % w < w := Int.emod_lt_of_pos _ (by omega)
      have hy0 : 0 ≤ i / w := Int.ediv_nonneg hi0 (by omega)
      have hy1 : i / w < h := Int.ediv_lt_of_lt_mul (by omega) (by rw [Int.mul_comm]; omega)
      rw [Int.tdiv_eq_ediv_of_nonneg hi0, Int.tmod_eq_emod_of_nonneg hi0, wr64 (x := i / w) (by omega) (by omega), wr64 (x := i % w - x) (by omega) (by omega), wr64 (x := i / w - y) (by omega) (by omega), bit_r fu d1 d2 d3 d4 d5 hb]
    · have hd := drawn_on hf (F := fun a b => pixB w h ds (a - x) (b - y)) (by omega : 0 < w) d2 (by omega : 0 < h) d4
      simp only [ewh, decide_true, cond_true]
      rw [hd, bindO_some]
      simp only
      rw [same_r, bindO_some]
  · rw [shift_out hf hb h0 c] at hs
    injection hs with hs
    subst hs
    have key : law_BitmapMoves_j2 fu ((w, (h, ds)), (x, (y, (cw, (ch, ()))))) ((0, (0, [])), (3, ())) 3 true = some (true, ()) := by
      unfold law_BitmapMoves_j2
      simp only [cond_true]
      rw [refused_r, bindO_some]
    by_cases c1 : -1024 ≤ x ∧ x ≤ 1024
    · rw [decide_eq_true c1.1, decide_eq_true c1.2]
      have : (decide (-1024 ≤ y) && decide (y ≤ 1024)) = false := by
        rw [← Bool.not_eq_true, Bool.and_eq_true]; simp; omega
      rw [this]
      exact key
    · have : (decide (-1024 ≤ x) && decide (x ≤ 1024)) = false := by
        rw [← Bool.not_eq_true, Bool.and_eq_true]; simp; omega
      rw [this]
      exact key
/-- the first half -/
theorem moves_j4 (h0 : bitsE w h ds = 0) (hn : cropOk w h x y cw ch) : law_BitmapMoves_j4 fu ((w, (h, ds)), (x, (y, (cw, (ch, ()))))) ((cw, (ch, canon cw ch (fun a b => pixB w h ds (x + a) (y + b)))), (0, ())) 0 (fun _ => some (true, ())) false = some (true, ()) := by
  obtain ⟨d1, d2, d3, d4, d5⟩ := bitsE_dim h0
  unfold cropOk at hn
  have hwh : 0 < cw * ch := Int.mul_pos (by omega) (by omega)
  have hwh2 : cw * ch ≤ 1048576 := by
    have := Int.mul_le_mul (by omega : cw ≤ 1024) (by omega : ch ≤ 1024) (by omega : 0 ≤ ch) (by omega : (0 : Int) ≤ 1024)
    omega
  unfold law_BitmapMoves_j4
  simp only [cond_false]
  have ewh : IntKind.i64.wrap (cw * ch) = cw * ch := wr64 (x := cw * ch) (by omega) (by omega)
  rw [bif_and (by rw [ewh]; omega) (by rw [ewh]; omega)]
  refine (onF_spec hf (n := (IntKind.i64.wrap (cw * ch)).toNat) (by rw [ewh]; omega) (w := cw) (by omega) (G := fun i => pixB w h ds (x + i % cw) (y + i / cw))
    (cl := fun i => R_Bit_r fu (((w, (h, ds)), ((IntKind.i64.wrap (x + (Int.tmod i cw))), ((IntKind.i64.wrap (y + (IntKind.i64.wrap (Int.tdiv i cw)))), ())))))
    (out := fun on => joinF (law_BitmapMoves_j6 fu (fun _ => some (true, ()))) fun j11 => bif decide ((0 : Int) ≠ 0) then j11 true else (bindO (R_Drawn_r fu ((cw, (ch, (on, ()))))) fun v12 => bindO (R_SameBits_r fu (((cw, (ch, canon cw ch (fun a b => pixB w h ds (x + a) (y + b)))), ((v12.1.1, (v12.1.2.1, v12.1.2.2)), ())))) fun v13 => j11 (!v13.1))) ?_).trans ?_
  · intro i hi0 hi1
    rw [ewh] at hi1
    have hx0 : 0 ≤ i % cw := Int.emod_nonneg _ (by omega)
    have hx1 : i % cw < cw := Int.emod_lt_of_pos _ (by omega)
    have hy0 : 0 ≤ i / cw := Int.ediv_nonneg hi0 (by omega)
    have hy1 : i / cw < ch := Int.ediv_lt_of_lt_mul (by omega) (by rw [Int.mul_comm]; omega)
    rw [Int.tdiv_eq_ediv_of_nonneg hi0, Int.tmod_eq_emod_of_nonneg hi0, wr64 (x := i / cw) (by omega) (by omega), wr64 (x := x + i % cw) (by omega) (by omega), wr64 (x := y + i / cw) (by omega) (by omega), bit_r fu d1 d2 d3 d4 d5 hb]
  · have hd := drawn_on hf (F := fun a b => pixB w h ds (x + a) (y + b)) (by omega : 0 < cw) (by omega) (by omega : 0 < ch) (by omega)
    simp only [ewh, joinF_eq]
    rw [bif_neg (by decide), hd, bindO_some]
    simp only
    rw [same_r, bindO_some]
    rfl
theorem moves_r (hwk : law_bitmapWorks_r fu () = some (true, ())) : law_BitmapMoves_r fu ((w, (h, ds)), (x, (y, (cw, (ch, ()))))) = some (true, ()) := by
  unfold law_BitmapMoves_r
  simp only
  rw [hwk, bindO_some]
  simp only [Bool.not_true, cond_false]
  by_cases h0 : bitsE w h ds = 0
  · obtain ⟨d1, d2, d3, d4, d5⟩ := bitsE_dim h0
    obtain ⟨s, hs⟩ : ∃ s, bitmap_Shift_r fu ((w, (h, ds)), (x, (y, ()))) = some s := by
      by_cases c : -1024 ≤ x ∧ x ≤ 1024 ∧ -1024 ≤ y ∧ y ≤ 1024
      · exact ⟨_, shift_in hf hb h0 c⟩
      · exact ⟨_, shift_out hf hb h0 c⟩
    have j1 := moves_j1 hf (cw := cw) (ch := ch) hb h0 hs
    have j1' : law_BitmapMoves_j1 fu ((w, (h, ds)), (x, (y, (cw, (ch, ()))))) s s.2.1 = fun _ => some (true, ()) := funext fun u => j1
    by_cases hn : cropOk w h x y cw ch
    · have j4 := moves_j4 hf hb h0 hn
      rw [crop_in hf hb h0 hn, bindO_some, hs, bindO_some, bitsErr_r hf hb, bindO_some]
      simp only [joinF_eq]
      rw [h0, bif_neg (by decide), big_r, bindO_some]
      cases hbig : (decide (48 < w) || decide (24 < h)) with
      | true => rfl
      | false =>
        simp only [cond_false, j1']
        unfold cropOk at hn
        rw [within_r, bindO_some, within_r, bindO_some, within_r, bindO_some, within_r, bindO_some]
        rw [wr64 (x := w - cw) (by omega) (by omega), wr64 (x := h - ch) (by omega) (by omega)]
        rw [decide_eq_true (show 1 ≤ cw by omega), decide_eq_true (show cw ≤ w by omega), decide_eq_true (show 1 ≤ ch by omega), decide_eq_true (show ch ≤ h by omega), decide_eq_true (show 0 ≤ x by omega), decide_eq_true (show x ≤ w - cw by omega), decide_eq_true (show 0 ≤ y by omega), decide_eq_true (show y ≤ h - ch by omega)]
        exact j4
    · rw [crop_out hf hb h0 hn, bindO_some, hs, bindO_some, bitsErr_r hf hb, bindO_some]
      simp only [joinF_eq]
      rw [h0, bif_neg (by decide), big_r, bindO_some]
      cases hbig : (decide (48 < w) || decide (24 < h)) with
      | true => rfl
      | false =>
        simp only [cond_false, j1']
        have key : law_BitmapMoves_j4 fu ((w, (h, ds)), (x, (y, (cw, (ch, ()))))) ((0, (0, [])), (3, ())) 3 (fun _ => some (true, ())) true = some (true, ()) := by
          unfold law_BitmapMoves_j4
          simp only [cond_true]
          rw [refused_r, bindO_some]
          rfl
        unfold cropOk at hn
        rw [within_r, bindO_some, within_r, bindO_some, within_r, bindO_some, within_r, bindO_some]
        cases c1 : (decide (1 ≤ cw) && decide (cw ≤ w)) with
        | false => exact key
        | true =>
          simp only [Bool.not_true, cond_false]
          rw [Bool.and_eq_true, decide_eq_true_eq, decide_eq_true_eq] at c1
          cases c2 : (decide (1 ≤ ch) && decide (ch ≤ h)) with
          | false => exact key
          | true =>
            simp only [Bool.not_true, cond_false]
            rw [Bool.and_eq_true, decide_eq_true_eq, decide_eq_true_eq] at c2
            rw [wr64 (x := w - cw) (by omega) (by omega), wr64 (x := h - ch) (by omega) (by omega)]
            cases c3 : (decide (0 ≤ x) && decide (x ≤ w - cw)) with
            | false => exact key
            | true =>
              simp only [Bool.not_true, cond_false]
              rw [Bool.and_eq_true, decide_eq_true_eq, decide_eq_true_eq] at c3
              have c4 : (decide (0 ≤ y) && decide (y ≤ h - ch)) = false := by
                rw [← Bool.not_eq_true, Bool.and_eq_true, decide_eq_true_eq, decide_eq_true_eq]
                omega
              rw [c4]
              exact key
  · rw [crop_bad hf hb h0, bindO_some, shift_bad hf hb h0, bindO_some, bitsErr_r hf hb, bindO_some]
    simp only
    rw [bif_pos h0, refused_r, bindO_some]
    simp only [cond_true]
    rw [bindO_some]
end
end Go.Proofs.Ytnbmldnahacnlaa
/- Rewriting of residual programs by facts of arithmetic. No program in sight. -/
namespace Go.Proofs.Ytnbmldnahacnlaa
open Go Go.RowKit
theorem s_pos {p : Prop} [Decidable p] (h : p) : decide p = true := decide_eq_true h
theorem s_neg {p : Prop} [Decidable p] (h : ¬ p) : decide p = false := decide_eq_false h
theorem s_wr {x : Int} (h0 : -9223372036854775808 ≤ x) (h1 : x ≤ 9223372036854775807) : IntKind.i64.wrap x = x := wr64 h0 h1
theorem s_td {a b : Int} (h : 0 ≤ a) : Int.tdiv a b = a / b := Int.tdiv_eq_ediv_of_nonneg h
theorem s_tm {a b : Int} (h : 0 ≤ a) : Int.tmod a b = a % b := Int.tmod_eq_emod_of_nonneg h
theorem s_tF {α : Type} {a b : α} : (bif true then a else b) = a := rfl
theorem s_fF {α : Type} {a b : α} : (bif false then a else b) = b := rfl
end Go.Proofs.Ytnbmldnahacnlaa
/- BitmapGrowth: what Spread and Turn compute. -/
namespace Go.Proofs.Ytnbmldnahacnlaa
open Go Go.RowKit
set_option linter.unusedSimpArgs false
set_option linter.unusedSectionVars false
set_option linter.unusedVariables false

theorem loopF_congr {α β : Type} {f g : (α → Option β) → α → Option β} (I : α → Prop) (h : ∀ j j' x, I x → (∀ x', I x' → j x' = j' x') → f j x = g j' x) : ∀ (fu : Nat) (x : α), I x → loopF f fu x = loopF g fu x
  | 0, _, _ => rfl
  | fu + 1, x, hI => by
    rw [loopF, loopF]
    exact h _ _ x hI fun x' h1 => loopF_congr I h fu x' h1
section
variable {fu : Nat} (hf : 18446744073709551616 ≤ fu) {w h : Int} {β : Type}
include hf
/-- a picture drawn pixel by pixel, whatever the loops' texts -/
theorem row_spec {y : Int} {F : Int → Int → Bool} {f : (Int × List Int → Option β) → Int × List Int → Option β} {out : Int × List Int → Option β} (hw0 : 0 < w) (hw1 : w ≤ 1024) (hy0 : 0 ≤ y) (hy1 : y < h) (hh1 : h ≤ 1024)
    (h1 : ∀ (j : Int × List Int → Option β) (x : Int) (ds : List Int), 0 ≤ x → x < w → f j (x, ds) = bif F x y then markF fu w y x ds (fun d => j (x + 1, d)) else j (x + 1, ds))
    (h2 : ∀ (j : Int × List Int → Option β) (x : Int) (ds : List Int), w ≤ x → f j (x, ds) = out (y + 1, ds)) :
    loopF f fu (0, canon w h (fun a b => F a b && decide (b < y))) = out (y + 1, canon w h (fun a b => F a b && decide (b < y + 1))) := by
  rw [← fromI_spec hf hw0 hw1 hy0 hy1 hh1 (cl := fun x => some (F x y, ())) (out := out) (fun x _ _ => rfl)]
  refine loopF_congr (fun v => 0 ≤ v.1) ?_ fu _ (by simp)
  rintro j j' ⟨x, ds⟩ h0 ih
  simp only at h0
  unfold fromI
  by_cases hx : x < w
  · rw [h1 j x ds h0 hx]
    simp (disch := omega) only [joinF_eq, bindO_some, s_wr, s_td, s_tm, s_pos, s_neg, cond_true, cond_false, Bool.not_true, Bool.not_false, Bool.true_and, Bool.and_true, Bool.false_and, Bool.and_false, bne_self_eq_false, decide_true, decide_false, Int.toNat_natCast]
    cases F x y with
    | true =>
      simp (disch := omega) only [joinF_eq, bindO_some, s_wr, s_td, s_tm, s_pos, s_neg, cond_true, cond_false, Bool.not_true, Bool.not_false, Bool.true_and, Bool.and_true, Bool.false_and, Bool.and_false, bne_self_eq_false, decide_true, decide_false, Int.toNat_natCast]
      congr 1
      funext d
      exact ih (x + 1, d) (by simp only; omega)
    | false =>
      simp (disch := omega) only [joinF_eq, bindO_some, s_wr, s_td, s_tm, s_pos, s_neg, cond_true, cond_false, Bool.not_true, Bool.not_false, Bool.true_and, Bool.and_true, Bool.false_and, Bool.and_false, bne_self_eq_false, decide_true, decide_false, Int.toNat_natCast]
      exact ih (x + 1, ds) (by simp only; omega)
  · rw [h2 j x ds (by omega)]
    simp (disch := omega) only [joinF_eq, bindO_some, s_wr, s_td, s_tm, s_pos, s_neg, cond_true, cond_false, Bool.not_true, Bool.not_false, Bool.true_and, Bool.and_true, Bool.false_and, Bool.and_false, bne_self_eq_false, decide_true, decide_false, Int.toNat_natCast]
theorem all_spec {F : Int → Int → Bool} {f : (Int × List Int → Option β) → Int × List Int → Option β} {fin : List Int → Option β} (hw0 : 0 < w) (hh0 : 0 < h)
    (h1 : ∀ (j : Int × List Int → Option β) (y : Int), 0 ≤ y → y < h → f j (y, canon w h (fun a b => F a b && decide (b < y))) = j (y + 1, canon w h (fun a b => F a b && decide (b < y + 1))))
    (h2 : ∀ (j : Int × List Int → Option β) (y : Int) (ds : List Int), h ≤ y → f j (y, ds) = fin ds) (hh1 : h ≤ 1024) :
    loopF f fu (0, List.replicate (strd w * h).toNat 0) = fin (canon w h F) := by
  rw [← canon_zero w h (P := fun _ _ => false) (fun _ _ => rfl)]
  refine loopF_spec (fun v => (h - v.1).toNat) (fun v => 0 ≤ v.1 ∧ v.1 ≤ h ∧ v.2 = canon w h (fun a b => F a b && decide (b < v.1))) (fun _ => fin (canon w h F)) ?_ fu (0, _) ⟨by omega, by omega, ?_⟩ (by simp only; omega)
  · rintro j ⟨y, ds⟩ ⟨k0, k1, hd⟩ ih
    simp only at k0 k1 hd
    by_cases hy : y < h
    · rw [hd, h1 j y k0 hy]
      exact ih (y + 1, _) ⟨by simp only; omega, by simp only; omega, rfl⟩ (by simp only; omega)
    · rw [h2 j y ds (by omega), hd]
      congr 1
      refine canon_congr hw0 fun a b _ _ _ hb => ?_
      rw [decide_eq_true (show b < y by omega), Bool.and_true]
  · refine canon_congr hw0 fun a b _ _ hb _ => ?_
    rw [decide_eq_false (show ¬ b < 0 by omega), Bool.and_false]
end
/-- pixels within a bitmap -/
def inB (w h : Int) (P : Int → Int → Bool) (x y : Int) : Bool := decide (0 ≤ x ∧ x < w ∧ 0 ≤ y ∧ y < h) && P x y
def grow (P : Int → Int → Bool) (x y : Int) : Bool := P x y || (P (x - 1) y || (P (x + 1) y || (P x (y - 1) || P x (y + 1))))
def grown (w h : Int) (P : Int → Int → Bool) : Nat → Int → Int → Bool
  | 0 => P
  | n + 1 => grow (inB w h (grown w h P n))
/-- is_r on a drawn picture -/
theorem is_c (fu : Nat) {w h : Int} (hw0 : 0 ≤ w) (hw1 : w ≤ 1024) (hh0 : 0 ≤ h) (hh : h ≤ 1024) (P : Int → Int → Bool) (x y : Int) : bitmap_Is_r fu ((w, (h, canon w h P)), (x, (y, ()))) = some (inB w h P x y, ()) := by
  rw [is_r fu hw0 hw1 hh (canon_len hw0 hh0 _) (canon_bytes _ _ _), canon_pix hw0]; rfl
section
variable {fu : Nat} (hf : 18446744073709551616 ≤ fu) {w h : Int}
include hf
theorem grown_l3 {y : Int} {P : Int → Int → Bool} {i : Int} {j2 : Int × List Int → Option ((Int × Int × List Int) × Unit)} {v2 : Int × List Int} (hw0 : 0 < w) (hw1 : w ≤ 1024) (hy0 : 0 ≤ y) (hy1 : y < h) (hh1 : h ≤ 1024) (hv : v2.1 = y) :
    loopF (bitmap_Grown_l3 fu (i, (w, (h, canon w h P))) v2 y j2) fu (0, canon w h (fun a b => grow (inB w h P) a b && decide (b < y))) = j2 (y + 1, canon w h (fun a b => grow (inB w h P) a b && decide (b < y + 1))) := by
  refine row_spec hf hw0 hw1 hy0 hy1 hh1 (fun j x ds h0 h1 => ?_) (fun j x ds h1 => ?_)
  · unfold bitmap_Grown_l3
    simp (disch := omega) only [joinF_eq, bindO_some, s_wr, s_td, s_tm, s_pos, s_neg, cond_true, cond_false, Bool.not_true, Bool.not_false, Bool.true_and, Bool.and_true, Bool.false_and, Bool.and_false, bne_self_eq_false, decide_true, decide_false, Int.toNat_natCast, is_c]
    unfold grow bitmap_Grown_j4
    cases inB w h P x y <;> cases inB w h P (x - 1) y <;> cases inB w h P (x + 1) y <;> cases inB w h P x (y - 1) <;> cases inB w h P x (y + 1) <;>
      simp (disch := omega) only [joinF_eq, bindO_some, s_wr, s_td, s_tm, s_pos, s_neg, cond_true, cond_false, Bool.not_true, Bool.not_false, Bool.true_and, Bool.and_true, Bool.false_and, Bool.and_false, bne_self_eq_false, decide_true, decide_false, Int.toNat_natCast, bitmap_Grown_j5, markF, Bool.true_or, Bool.false_or]
  · unfold bitmap_Grown_l3
    simp (disch := omega) only [joinF_eq, bindO_some, s_wr, s_td, s_tm, s_pos, s_neg, cond_true, cond_false, Bool.not_true, Bool.not_false, Bool.true_and, Bool.and_true, Bool.false_and, Bool.and_false, bne_self_eq_false, decide_true, decide_false, Int.toNat_natCast]
    rw [hv]
theorem grown_r {n : Int} {ds : List Int} (hb : Bytes ds) (h0 : bitsE w h ds = 0) (hn : 0 ≤ n ∧ n ≤ 16) :
    bitmap_Grown_r fu ((w, (h, ds)), (n, ())) = some ((w, (h, canon w h (grown w h (pixB w h ds) n.toNat))), ()) := by
  obtain ⟨d1, d2, d3, d4, d5⟩ := bitsE_dim h0
  obtain ⟨b1, b2, b3, b4⟩ := strd_bd (w := w) (h := h) (by omega) d2 (by omega) d4
  unfold bitmap_Grown_r
  simp (disch := omega) only [joinF_eq, bindO_some, s_wr, s_td, s_tm, s_pos, s_neg, cond_true, cond_false, Bool.not_true, Bool.not_false, Bool.true_and, Bool.and_true, Bool.false_and, Bool.and_false, bne_self_eq_false, decide_true, decide_false, Int.toNat_natCast]
  refine loopF_spec (fun v => (n - v.1).toNat) (fun v : Int × Int × Int × List Int => 0 ≤ v.1 ∧ v.1 ≤ n ∧ v.2 = (w, (h, canon w h (grown w h (pixB w h ds) v.1.toNat)))) (fun _ => some ((w, (h, canon w h (grown w h (pixB w h ds) n.toNat))), ())) ?_ fu (0, (w, (h, ds))) ⟨by omega, by simp only; omega, ?_⟩ (by simp only; omega)
  · rintro j ⟨i, v⟩ ⟨k0, k1, kv⟩ ih
    simp only at k0 k1 kv
    subst kv
    unfold bitmap_Grown_l1
    by_cases hi : i < n
    · simp (disch := omega) only [joinF_eq, bindO_some, s_wr, s_td, s_tm, s_pos, s_neg, cond_true, cond_false, Bool.not_true, Bool.not_false, Bool.true_and, Bool.and_true, Bool.false_and, Bool.and_false, bne_self_eq_false, decide_true, decide_false, Int.toNat_natCast]
      rw [stride_r fu (by omega) (by omega)]
      simp (disch := omega) only [joinF_eq, bindO_some, s_wr, s_td, s_tm, s_pos, s_neg, cond_true, cond_false, Bool.not_true, Bool.not_false, Bool.true_and, Bool.and_true, Bool.false_and, Bool.and_false, bne_self_eq_false, decide_true, decide_false, Int.toNat_natCast]
      rw [all_spec hf (F := grow (inB w h (grown w h (pixB w h ds) i.toNat))) (fin := fun ds => j (i + 1, (w, (h, ds)))) (by omega) (by omega) (fun j y hy0 hy1 => ?_) (fun j y ds hy => ?_) d4]
      · exact ih (i + 1, _) ⟨by simp only; omega, by simp only; omega, by simp only; rw [show (i + 1).toNat = i.toNat + 1 by omega]; rfl⟩ (by simp only; omega)
      · unfold bitmap_Grown_l2
        simp (disch := omega) only [joinF_eq, bindO_some, s_wr, s_td, s_tm, s_pos, s_neg, cond_true, cond_false, Bool.not_true, Bool.not_false, Bool.true_and, Bool.and_true, Bool.false_and, Bool.and_false, bne_self_eq_false, decide_true, decide_false, Int.toNat_natCast]
        exact grown_l3 hf (by omega) d2 hy0 hy1 d4 rfl
      · unfold bitmap_Grown_l2
        simp (disch := omega) only [joinF_eq, bindO_some, s_wr, s_td, s_tm, s_pos, s_neg, cond_true, cond_false, Bool.not_true, Bool.not_false, Bool.true_and, Bool.and_true, Bool.false_and, Bool.and_false, bne_self_eq_false, decide_true, decide_false, Int.toNat_natCast]
    · have e : i = n := by omega
      subst e
      simp (disch := omega) only [joinF_eq, bindO_some, s_wr, s_td, s_tm, s_pos, s_neg, cond_true, cond_false, Bool.not_true, Bool.not_false, Bool.true_and, Bool.and_true, Bool.false_and, Bool.and_false, bne_self_eq_false, decide_true, decide_false, Int.toNat_natCast]
  · show (w, (h, ds)) = (w, (h, canon w h (pixB w h ds)))
    rw [← canon_self hb h0]
end
end Go.Proofs.Ytnbmldnahacnlaa
/- BitmapGrowth: the reference's Spread and Turned; Turn. -/
namespace Go.Proofs.Ytnbmldnahacnlaa
open Go Go.RowKit
set_option linter.unusedSimpArgs false
set_option linter.unusedSectionVars false
set_option linter.unusedVariables false

/-- a set pixel at most n steps away -/
def near (P : Int → Int → Bool) (n : Nat) (x y : Int) : Prop := ∃ i j, P i j = true ∧ (i - x).natAbs + (j - y).natAbs ≤ n
theorem inB_true {w h : Int} {P : Int → Int → Bool} {x y : Int} : inB w h P x y = true ↔ (0 ≤ x ∧ x < w ∧ 0 ≤ y ∧ y < h) ∧ P x y = true := by
  unfold inB
  rw [Bool.and_eq_true, decide_eq_true_eq]
theorem grown_near {w h : Int} {P : Int → Int → Bool} (hP : ∀ i j, P i j = true → 0 ≤ i ∧ i < w ∧ 0 ≤ j ∧ j < h) : ∀ (n : Nat) (x y : Int), 0 ≤ x → x < w → 0 ≤ y → y < h → (grown w h P n x y = true ↔ near P n x y)
  | 0, x, y, _, _, _, _ => ⟨fun h => ⟨x, y, h, by omega⟩, fun ⟨i, j, h1, h2⟩ => by
      have e1 : i = x := by omega
      have e2 : j = y := by omega
      subst e1; subst e2; exact h1⟩
  | n + 1, x, y, hx0, hx1, hy0, hy1 => by
    have step : ∀ a b, inB w h (grown w h P n) a b = true ↔ (0 ≤ a ∧ a < w ∧ 0 ≤ b ∧ b < h) ∧ near P n a b := by
      intro a b
      rw [inB_true]
      constructor
      · rintro ⟨h1, h2⟩
        exact ⟨h1, (grown_near hP n a b h1.1 h1.2.1 h1.2.2.1 h1.2.2.2).1 h2⟩
      · rintro ⟨h1, h2⟩
        exact ⟨h1, (grown_near hP n a b h1.1 h1.2.1 h1.2.2.1 h1.2.2.2).2 h2⟩
    show grow (inB w h (grown w h P n)) x y = true ↔ _
    unfold grow
    simp only [Bool.or_eq_true, step]
    constructor
    · rintro (⟨_, i, j, h1, h2⟩ | ⟨_, i, j, h1, h2⟩ | ⟨_, i, j, h1, h2⟩ | ⟨_, i, j, h1, h2⟩ | ⟨_, i, j, h1, h2⟩) <;> exact ⟨i, j, h1, by omega⟩
    · rintro ⟨i, j, h1, h2⟩
      obtain ⟨b1, b2, b3, b4⟩ := hP i j h1
      by_cases g : (i - x).natAbs + (j - y).natAbs ≤ n
      · exact .inl ⟨⟨hx0, hx1, hy0, hy1⟩, i, j, h1, g⟩
      by_cases c1 : i < x
      · exact .inr (.inl ⟨by omega, i, j, h1, by omega⟩)
      by_cases c2 : x < i
      · exact .inr (.inr (.inl ⟨by omega, i, j, h1, by omega⟩))
      by_cases c3 : j < y
      · exact .inr (.inr (.inr (.inl ⟨by omega, i, j, h1, by omega⟩)))
      · exact .inr (.inr (.inr (.inr ⟨by omega, i, j, h1, by omega⟩)))
section
variable {fu : Nat} (hf : 18446744073709551616 ≤ fu) {w h : Int} {ds : List Int} (hb : Bytes ds)
include hf hb
open Classical in
theorem spread_l3 (d1 : 1 ≤ w) (d2 : w ≤ 1024) (d3 : 1 ≤ h) (d4 : h ≤ 1024) (d5 : (ds.length : Int) = strd w * h) {x y n v f : Int} {j1 : Int → Option (Bool × Unit)} (hx0 : 0 ≤ x) (hx1 : x < 1024) (hy0 : 0 ≤ y) (hy1 : y < 1024) (hn0 : 0 ≤ n) (hn1 : n ≤ 16) (hv0 : -16 ≤ v) (hv1 : v ≤ 1040) (hf0 : 0 ≤ f) (hf1 : f ≤ n) :
    loopF (R_Spread_l3 fu ((w, (h, ds)), (x, (y, (n, ())))) v f j1) fu (x - n + f) = if ∃ i, x - n + f ≤ i ∧ i ≤ x + n - f ∧ pixB w h ds i v = true then some (true, ()) else j1 (v + 1) := by
  refine loopF_spec (fun u : Int => (x + n - f + 1 - u).toNat) (fun u => x - n + f ≤ u ∧ u ≤ x + n - f + 1) (fun u => if ∃ i, u ≤ i ∧ i ≤ x + n - f ∧ pixB w h ds i v = true then some (true, ()) else j1 (v + 1)) ?_ fu _ ⟨by omega, by omega⟩ (by omega)
  rintro j u ⟨k0, k1⟩ ih
  unfold R_Spread_l3
  by_cases hu : u ≤ x + n - f
  · simp (disch := omega) only [joinF_eq, bindO_some, s_wr, s_td, s_tm, s_pos, s_neg, cond_true, cond_false, Bool.not_true, Bool.not_false, Bool.true_and, Bool.and_true, Bool.false_and, Bool.and_false, bne_self_eq_false, decide_true, decide_false, Int.toNat_natCast]
    rw [bit_r fu d1 d2 d3 d4 d5 hb]
    simp (disch := omega) only [joinF_eq, bindO_some, s_wr, s_td, s_tm, s_pos, s_neg, cond_true, cond_false, Bool.not_true, Bool.not_false, Bool.true_and, Bool.and_true, Bool.false_and, Bool.and_false, bne_self_eq_false, decide_true, decide_false, Int.toNat_natCast]
    cases hp : pixB w h ds u v with
    | true =>
      simp (disch := omega) only [joinF_eq, bindO_some, s_wr, s_td, s_tm, s_pos, s_neg, cond_true, cond_false, Bool.not_true, Bool.not_false, Bool.true_and, Bool.and_true, Bool.false_and, Bool.and_false, bne_self_eq_false, decide_true, decide_false, Int.toNat_natCast]
      rw [if_pos ⟨u, by omega, by omega, hp⟩]
    | false =>
      simp (disch := omega) only [joinF_eq, bindO_some, s_wr, s_td, s_tm, s_pos, s_neg, cond_true, cond_false, Bool.not_true, Bool.not_false, Bool.true_and, Bool.and_true, Bool.false_and, Bool.and_false, bne_self_eq_false, decide_true, decide_false, Int.toNat_natCast]
      rw [ih (u + 1) ⟨by omega, by omega⟩ (by omega)]
      congr 1
      refine propext ⟨fun ⟨i, h1, h2, h3⟩ => ⟨i, by omega, h2, h3⟩, fun ⟨i, h1, h2, h3⟩ => ⟨i, ?_, h2, h3⟩⟩
      by_cases e : i = u
      · subst e; rw [hp] at h3; cases h3
      · omega
  · simp (disch := omega) only [joinF_eq, bindO_some, s_wr, s_td, s_tm, s_pos, s_neg, cond_true, cond_false, Bool.not_true, Bool.not_false, Bool.true_and, Bool.and_true, Bool.false_and, Bool.and_false, bne_self_eq_false, decide_true, decide_false, Int.toNat_natCast]
    rw [if_neg]
    rintro ⟨i, h1, h2, _⟩
    omega
open Classical in
theorem spread_r (h0 : bitsE w h ds = 0) {x y n : Int} (hx0 : 0 ≤ x) (hx1 : x < 1024) (hy0 : 0 ≤ y) (hy1 : y < 1024) (hn0 : 0 ≤ n) (hn1 : n ≤ 16) :
    R_Spread_r fu ((w, (h, ds)), (x, (y, (n, ())))) = some (decide (near (pixB w h ds) n.toNat x y), ()) := by
  obtain ⟨d1, d2, d3, d4, d5⟩ := bitsE_dim h0
  unfold R_Spread_r
  simp (disch := omega) only [joinF_eq, bindO_some, s_wr, s_td, s_tm, s_pos, s_neg, cond_true, cond_false, Bool.not_true, Bool.not_false, Bool.true_and, Bool.and_true, Bool.false_and, Bool.and_false, bne_self_eq_false, decide_true, decide_false, Int.toNat_natCast]
  have key := loopF_spec (f := R_Spread_l1 fu ((w, (h, ds)), (x, (y, (n, ()))))) (fun v : Int => (y + n + 1 - v).toNat) (fun v => y - n ≤ v ∧ v ≤ y + n + 1) (fun v => if ∃ j, v ≤ j ∧ ∃ i, pixB w h ds i j = true ∧ (i - x).natAbs + (j - y).natAbs ≤ n.toNat then some (true, ()) else some (false, ())) ?_ fu (y - n) ⟨by omega, by omega⟩ (by omega)
  · rw [key]
    by_cases g : near (pixB w h ds) n.toNat x y
    · rw [if_pos, decide_eq_true g]
      obtain ⟨i, j, h1, h2⟩ := g
      exact ⟨j, by omega, i, h1, h2⟩
    · rw [if_neg, decide_eq_false g]
      rintro ⟨j, _, i, h1, h2⟩
      exact g ⟨i, j, h1, h2⟩
  · rintro j v ⟨k0, k1⟩ ih
    unfold R_Spread_l1
    by_cases hv : v ≤ y + n
    · have fin : ∀ f : Int, f = (v - y).natAbs → R_Spread_j2 fu ((w, (h, ds)), (x, (y, (n, ())))) v j f = if ∃ j, v ≤ j ∧ ∃ i, pixB w h ds i j = true ∧ (i - x).natAbs + (j - y).natAbs ≤ n.toNat then some (true, ()) else some (false, ()) := by
        intro f hf'
        unfold R_Spread_j2
        simp (disch := omega) only [joinF_eq, bindO_some, s_wr, s_td, s_tm, s_pos, s_neg, cond_true, cond_false, Bool.not_true, Bool.not_false, Bool.true_and, Bool.and_true, Bool.false_and, Bool.and_false, bne_self_eq_false, decide_true, decide_false, Int.toNat_natCast]
        rw [spread_l3 hf hb d1 d2 d3 d4 d5 hx0 hx1 hy0 hy1 hn0 hn1 (by omega) (by omega) (by omega) (by omega), ih (v + 1) ⟨by omega, by omega⟩ (by omega)]
        by_cases g : ∃ i, x - n + f ≤ i ∧ i ≤ x + n - f ∧ pixB w h ds i v = true
        · rw [if_pos g]
          obtain ⟨i, h1, h2, h3⟩ := g
          rw [if_pos ⟨v, by omega, i, h3, by omega⟩]
        · rw [if_neg g]
          congr 1
          refine propext ⟨fun ⟨j, h1, h2⟩ => ⟨j, by omega, h2⟩, fun ⟨j, h1, i, h2, h3⟩ => ⟨j, ?_, i, h2, h3⟩⟩
          by_cases e : j = v
          · subst e
            exact absurd ⟨i, by omega, by omega, h2⟩ g
          · omega
      simp (disch := omega) only [joinF_eq, bindO_some, s_wr, s_td, s_tm, s_pos, s_neg, cond_true, cond_false, Bool.not_true, Bool.not_false, Bool.true_and, Bool.and_true, Bool.false_and, Bool.and_false, bne_self_eq_false, decide_true, decide_false, Int.toNat_natCast]
      by_cases g : v - y < 0
      · simp (disch := omega) only [joinF_eq, bindO_some, s_wr, s_td, s_tm, s_pos, s_neg, cond_true, cond_false, Bool.not_true, Bool.not_false, Bool.true_and, Bool.and_true, Bool.false_and, Bool.and_false, bne_self_eq_false, decide_true, decide_false, Int.toNat_natCast]
        exact fin _ (by omega)
      · simp (disch := omega) only [joinF_eq, bindO_some, s_wr, s_td, s_tm, s_pos, s_neg, cond_true, cond_false, Bool.not_true, Bool.not_false, Bool.true_and, Bool.and_true, Bool.false_and, Bool.and_false, bne_self_eq_false, decide_true, decide_false, Int.toNat_natCast]
        exact fin _ (by omega)
    · simp (disch := omega) only [joinF_eq, bindO_some, s_wr, s_td, s_tm, s_pos, s_neg, cond_true, cond_false, Bool.not_true, Bool.not_false, Bool.true_and, Bool.and_true, Bool.false_and, Bool.and_false, bne_self_eq_false, decide_true, decide_false, Int.toNat_natCast]
      rw [if_neg]
      rintro ⟨j, h1, i, h2, h3⟩
      omega
end
end Go.Proofs.Ytnbmldnahacnlaa
/- BitmapGrowth: Turn, the reference's Turned, the law. -/
namespace Go.Proofs.Ytnbmldnahacnlaa
open Go Go.RowKit
set_option linter.unusedSimpArgs false
set_option linter.unusedSectionVars false
set_option linter.unusedVariables false

theorem onL_set {n : Nat} {G : Int → Bool} {k : Int} (h0 : 0 ≤ k) (h1 : k < n) : (onL n (fun i => G i && decide (i < k))).set k.toNat (G k) = onL n (fun i => G i && decide (i < k + 1)) := by
  refine List.ext_getElem (by rw [List.length_set, onL_length, onL_length]) fun q g1 g2 => ?_
  rw [List.getElem_set]
  have hq : q < n := by rw [onL_length] at g2; exact g2
  have get : ∀ (G' : Int → Bool) (hh : q < (onL n G').length), (onL n G')[q] = G' q := by
    intro G' hh
    simp only [onL, List.getElem_map, List.getElem_range]
  rw [get, get]
  split
  · rename_i e
    subst e
    rw [Int.toNat_of_nonneg h0, decide_eq_true (by omega), Bool.and_true]
  · by_cases g : (q : Int) < k
    · rw [decide_eq_true g, decide_eq_true (by omega)]
    · rw [decide_eq_false g, decide_eq_false (by omega)]
theorem onL_none {n : Nat} {G : Int → Bool} (h : ∀ i, 0 ≤ i → G i = false) : onL n G = List.replicate n false := by
  refine List.ext_getElem (by rw [onL_length, List.length_replicate]) fun q g1 g2 => ?_
  simp only [onL, List.getElem_map, List.getElem_range, List.getElem_replicate]
  exact h _ (by omega)
theorem onL_congr {n : Nat} {G G' : Int → Bool} (h : ∀ i, 0 ≤ i → i < n → G i = G' i) : onL n G = onL n G' := List.map_congr_left fun i hi => h i (by omega) (by have := List.mem_range.1 hi; omega)
/-- where a pixel of a turned bitmap comes from -/
def srcI (w h k x y : Int) : Int := if k % 4 = 0 then x else if k % 4 = 1 then y else if k % 4 = 2 then w - 1 - x else w - 1 - y
def srcJ (w h k x y : Int) : Int := if k % 4 = 0 then y else if k % 4 = 1 then h - 1 - x else if k % 4 = 2 then h - 1 - y else x
def srcM (w k i : Int) : Int := if 4 ≤ k then w - 1 - i else i
def turnP (w h k : Int) (P : Int → Int → Bool) (x y : Int) : Bool := P (srcM w k (srcI w h k x y)) (srcJ w h k x y)
def tw (w h k : Int) : Int := if k % 2 = 1 then h else w
section
variable {fu : Nat} (hf : 18446744073709551616 ≤ fu) {w h : Int} {ds : List Int} (hb : Bytes ds)
include hf hb
theorem src_bd {k x y : Int} (d2 : w ≤ 1024) (d4 : h ≤ 1024) (hx0 : 0 ≤ x) (hx1 : x < tw w h k) (hy0 : 0 ≤ y) (hy1 : y < tw h w k) : 0 ≤ srcI w h k x y ∧ srcI w h k x y < w ∧ 0 ≤ srcJ w h k x y ∧ srcJ w h k x y < h := by
  clear hf hb
  unfold tw at hx1 hy1
  unfold srcI srcJ
  split <;> rename_i c1
  · rw [if_neg (by omega)] at hx1 hy1; omega
  split <;> rename_i c2
  · rw [if_pos (by omega)] at hx1 hy1; omega
  split <;> rename_i c3
  · rw [if_neg (by omega)] at hx1 hy1; omega
  · rw [if_pos (by omega)] at hx1 hy1; omega
theorem rturned_l3 (h0 : bitsE w h ds = 0) {k y : Int} (hk0 : 0 ≤ k) (hk1 : k ≤ 7) (hy0 : 0 ≤ y) (hy1 : y < tw h w k) {v3 : Int × List Bool} (hv3 : v3.1 = y) {j3 : Int × List Bool → Option ((Int × Int × List Int) × Unit)} :
    loopF (R_Turned_l3 fu ((w, (h, ds)), (k, ())) (tw h w k, tw w h k) v3 y j3) fu (0, onL (tw w h k * tw h w k).toNat (fun i => turnP w h k (pixB w h ds) (i % tw w h k) (i / tw w h k) && decide (i < y * tw w h k)))
      = j3 (y + 1, onL (tw w h k * tw h w k).toNat (fun i => turnP w h k (pixB w h ds) (i % tw w h k) (i / tw w h k) && decide (i < (y + 1) * tw w h k))) := by
  obtain ⟨d1, d2, d3, d4, d5⟩ := bitsE_dim h0
  have sb := fun x a b c => src_bd hf hb (w := w) (h := h) (k := k) (x := x) (y := y) d2 d4 a b hy0 c
  have tb : 1 ≤ tw w h k ∧ tw w h k ≤ 1024 ∧ 1 ≤ tw h w k ∧ tw h w k ≤ 1024 := by unfold tw; split <;> omega
  have hsj : ∀ x, (if k % 4 = 0 then ((x, y) : Int × Int) else if k % 4 = 1 then (y, h - 1 - x) else if k % 4 = 2 then (w - 1 - x, h - 1 - y) else (w - 1 - y, x)) = (srcI w h k x y, srcJ w h k x y) := by
    intro x
    unfold srcI srcJ
    split
    · rfl
    split
    · rfl
    split <;> rfl
  generalize hT : tw w h k = T at *
  generalize hU : tw h w k = U at *
  obtain ⟨t1, t2, t3, t4⟩ := tb
  have m1 : 0 ≤ y * T := Int.mul_nonneg hy0 (by omega)
  have m2 : (y + 1) * T ≤ U * T := Int.mul_le_mul_of_nonneg_right (by omega) (by omega)
  have m3 : (y + 1) * T = y * T + T := by rw [Int.add_mul, Int.one_mul]
  have m4 : U * T = T * U := Int.mul_comm _ _
  have m5 : T * U ≤ 1048576 := by
    have := Int.mul_le_mul t2 t4 (by omega : 0 ≤ U) (by omega : (0 : Int) ≤ 1024)
    omega
  refine loopF_spec (fun v : Int × List Bool => (T - v.1).toNat) (fun v => 0 ≤ v.1 ∧ v.1 ≤ T ∧ v.2 = onL (T * U).toNat (fun i => turnP w h k (pixB w h ds) (i % T) (i / T) && decide (i < y * T + v.1))) (fun _ => j3 (y + 1, onL (T * U).toNat (fun i => turnP w h k (pixB w h ds) (i % T) (i / T) && decide (i < (y + 1) * T)))) ?_ fu _ ⟨by omega, by simp only; omega, by simp only [Int.add_zero]⟩ (by simp only; omega)
  rintro j ⟨x, on⟩ ⟨k0, k1, kv⟩ ih
  simp only at k0 k1 kv
  unfold R_Turned_l3
  by_cases hx : x < T
  · obtain ⟨s1, s2, s3, s4⟩ := sb x k0 hx hy1
    have fin : R_Turned_j4 fu ((w, (h, ds)), (k, ())) (U, T) y (x, on) x j (srcI w h k x y, srcJ w h k x y) = j3 (y + 1, onL (T * U).toNat (fun i => turnP w h k (pixB w h ds) (i % T) (i / T) && decide (i < (y + 1) * T))) := by
      have fin2 : R_Turned_j5 fu ((w, (h, ds)), (k, ())) (U, T) y (x, on) x (srcI w h k x y, srcJ w h k x y) j (srcM w k (srcI w h k x y)) = j3 (y + 1, onL (T * U).toNat (fun i => turnP w h k (pixB w h ds) (i % T) (i / T) && decide (i < (y + 1) * T))) := by
        unfold R_Turned_j5
        rw [bit_r fu d1 d2 d3 d4 d5 hb]
        have hl : on.length = (T * U).toNat := by rw [kv, onL_length]
        simp (disch := omega) only [joinF_eq, bindO_some, s_wr, s_td, s_tm, s_pos, s_neg, cond_true, cond_false, Bool.not_true, Bool.not_false, Bool.true_and, Bool.and_true, Bool.false_and, Bool.and_false, bne_self_eq_false, decide_true, decide_false, Int.toNat_natCast]
        refine ih (x + 1, _) ⟨by simp only; omega, by simp only; omega, ?_⟩ (by simp only; omega)
        simp only
        have e := onL_set (n := (T * U).toNat) (G := fun i => turnP w h k (pixB w h ds) (i % T) (i / T)) (k := y * T + x) (by omega) (by omega)
        rw [kv]
        rw [(div_of k0 hx).1, (div_of k0 hx).2] at e
        unfold turnP at e
        rw [← Int.add_assoc]
        exact e
      unfold R_Turned_j4
      simp (disch := omega) only [joinF_eq, bindO_some, s_wr, s_td, s_tm, s_pos, s_neg, cond_true, cond_false, Bool.not_true, Bool.not_false, Bool.true_and, Bool.and_true, Bool.false_and, Bool.and_false, bne_self_eq_false, decide_true, decide_false, Int.toNat_natCast]
      by_cases c : 4 ≤ k
      · have : srcM w k (srcI w h k x y) = w - 1 - srcI w h k x y := if_pos c
        rw [this] at fin2
        simp (disch := omega) only [joinF_eq, bindO_some, s_wr, s_td, s_tm, s_pos, s_neg, cond_true, cond_false, Bool.not_true, Bool.not_false, Bool.true_and, Bool.and_true, Bool.false_and, Bool.and_false, bne_self_eq_false, decide_true, decide_false, Int.toNat_natCast]
        exact fin2
      · have : srcM w k (srcI w h k x y) = srcI w h k x y := if_neg c
        rw [this] at fin2
        simp (disch := omega) only [joinF_eq, bindO_some, s_wr, s_td, s_tm, s_pos, s_neg, cond_true, cond_false, Bool.not_true, Bool.not_false, Bool.true_and, Bool.and_true, Bool.false_and, Bool.and_false, bne_self_eq_false, decide_true, decide_false, Int.toNat_natCast]
        exact fin2
    rw [← hsj] at fin
    simp (disch := omega) only [joinF_eq, bindO_some, s_wr, s_td, s_tm, s_pos, s_neg, cond_true, cond_false, Bool.not_true, Bool.not_false, Bool.true_and, Bool.and_true, Bool.false_and, Bool.and_false, bne_self_eq_false, decide_true, decide_false, Int.toNat_natCast]
    by_cases c0 : k % 4 = 0
    · rw [if_pos c0] at fin; simp (disch := omega) only [joinF_eq, bindO_some, s_wr, s_td, s_tm, s_pos, s_neg, cond_true, cond_false, Bool.not_true, Bool.not_false, Bool.true_and, Bool.and_true, Bool.false_and, Bool.and_false, bne_self_eq_false, decide_true, decide_false, Int.toNat_natCast]; exact fin
    rw [if_neg c0] at fin
    by_cases c1 : k % 4 = 1
    · rw [if_pos c1] at fin; simp (disch := omega) only [joinF_eq, bindO_some, s_wr, s_td, s_tm, s_pos, s_neg, cond_true, cond_false, Bool.not_true, Bool.not_false, Bool.true_and, Bool.and_true, Bool.false_and, Bool.and_false, bne_self_eq_false, decide_true, decide_false, Int.toNat_natCast]; exact fin
    rw [if_neg c1] at fin
    by_cases c2 : k % 4 = 2
    · rw [if_pos c2] at fin; simp (disch := omega) only [joinF_eq, bindO_some, s_wr, s_td, s_tm, s_pos, s_neg, cond_true, cond_false, Bool.not_true, Bool.not_false, Bool.true_and, Bool.and_true, Bool.false_and, Bool.and_false, bne_self_eq_false, decide_true, decide_false, Int.toNat_natCast]; exact fin
    rw [if_neg c2] at fin
    simp (disch := omega) only [joinF_eq, bindO_some, s_wr, s_td, s_tm, s_pos, s_neg, cond_true, cond_false, Bool.not_true, Bool.not_false, Bool.true_and, Bool.and_true, Bool.false_and, Bool.and_false, bne_self_eq_false, decide_true, decide_false, Int.toNat_natCast]
    exact fin
  · simp (disch := omega) only [joinF_eq, bindO_some, s_wr, s_td, s_tm, s_pos, s_neg, cond_true, cond_false, Bool.not_true, Bool.not_false, Bool.true_and, Bool.and_true, Bool.false_and, Bool.and_false, bne_self_eq_false, decide_true, decide_false, Int.toNat_natCast]
    rw [kv, hv3, m3, show x = T by omega]
theorem rturned_r (h0 : bitsE w h ds = 0) {k : Int} (hk0 : 0 ≤ k) (hk1 : k ≤ 7) :
    R_Turned_r fu ((w, (h, ds)), (k, ())) = some ((tw w h k, (tw h w k, canon (tw w h k) (tw h w k) (turnP w h k (pixB w h ds)))), ()) := by
  obtain ⟨d1, d2, d3, d4, d5⟩ := bitsE_dim h0
  have tb : 1 ≤ tw w h k ∧ tw w h k ≤ 1024 ∧ 1 ≤ tw h w k ∧ tw h w k ≤ 1024 := by unfold tw; split <;> omega
  have l3 := fun y v3 j3 a b c => rturned_l3 hf hb h0 hk0 hk1 (y := y) a b (v3 := v3) c (j3 := j3)
  have fin : R_Turned_j1 fu ((w, (h, ds)), (k, ())) (tw h w k, tw w h k) = some ((tw w h k, (tw h w k, canon (tw w h k) (tw h w k) (turnP w h k (pixB w h ds)))), ()) := by
    generalize hT : tw w h k = T at *
    generalize hU : tw h w k = U at *
    obtain ⟨t1, t2, t3, t4⟩ := tb
    have m5 : T * U ≤ 1048576 := by
      have := Int.mul_le_mul t2 t4 (by omega : 0 ≤ U) (by omega : (0 : Int) ≤ 1024)
      omega
    have m6 : 0 < T * U := Int.mul_pos (by omega) (by omega)
    have m7 : U * T = T * U := Int.mul_comm _ _
    unfold R_Turned_j1
    simp (disch := omega) only [joinF_eq, bindO_some, s_wr, s_td, s_tm, s_pos, s_neg, cond_true, cond_false, Bool.not_true, Bool.not_false, Bool.true_and, Bool.and_true, Bool.false_and, Bool.and_false, bne_self_eq_false, decide_true, decide_false, Int.toNat_natCast]
    have hd := drawn_on hf (w := T) (h := U) (F := turnP w h k (pixB w h ds)) (by omega) t2 (by omega) t4
    refine loopF_spec (fun v : Int × List Bool => (U - v.1).toNat) (fun v => 0 ≤ v.1 ∧ v.1 ≤ U ∧ v.2 = onL (T * U).toNat (fun i => turnP w h k (pixB w h ds) (i % T) (i / T) && decide (i < v.1 * T))) (fun _ => some ((T, (U, canon T U (turnP w h k (pixB w h ds)))), ())) ?_ fu (0, _) ⟨by omega, by simp only; omega, ?_⟩ (by simp only; omega)
    · rintro j ⟨y, on⟩ ⟨k0, k1, kv⟩ ih
      simp only at k0 k1 kv
      rw [kv]
      unfold R_Turned_l2
      by_cases hy : y < U
      · simp (disch := omega) only [joinF_eq, bindO_some, s_wr, s_td, s_tm, s_pos, s_neg, cond_true, cond_false, Bool.not_true, Bool.not_false, Bool.true_and, Bool.and_true, Bool.false_and, Bool.and_false, bne_self_eq_false, decide_true, decide_false, Int.toNat_natCast]
        rw [l3 y _ j k0 hy rfl]
        exact ih (y + 1, _) ⟨by simp only; omega, by simp only; omega, rfl⟩ (by simp only; omega)
      · have e : y = U := by omega
        subst e
        simp (disch := omega) only [joinF_eq, bindO_some, s_wr, s_td, s_tm, s_pos, s_neg, cond_true, cond_false, Bool.not_true, Bool.not_false, Bool.true_and, Bool.and_true, Bool.false_and, Bool.and_false, bne_self_eq_false, decide_true, decide_false, Int.toNat_natCast]
        have e2 : onL (T * y).toNat (fun i => turnP w h k (pixB w h ds) (i % T) (i / T) && decide (i < y * T)) = onL (T * y).toNat (fun i => turnP w h k (pixB w h ds) (i % T) (i / T)) := onL_congr fun i a b => by
          rw [decide_eq_true (by omega), Bool.and_true]
        rw [e2, hd]
        simp (disch := omega) only [joinF_eq, bindO_some, s_wr, s_td, s_tm, s_pos, s_neg, cond_true, cond_false, Bool.not_true, Bool.not_false, Bool.true_and, Bool.and_true, Bool.false_and, Bool.and_false, bne_self_eq_false, decide_true, decide_false, Int.toNat_natCast]
    · simp only [Int.zero_mul]
      exact (onL_none fun i hi => by rw [decide_eq_false (by omega), Bool.and_false]).symm
  unfold R_Turned_r
  simp (disch := omega) only [joinF_eq, bindO_some, s_wr, s_td, s_tm, s_pos, s_neg, cond_true, cond_false, Bool.not_true, Bool.not_false, Bool.true_and, Bool.and_true, Bool.false_and, Bool.and_false, bne_self_eq_false, decide_true, decide_false, Int.toNat_natCast]
  unfold tw at fin
  by_cases c : k % 2 = 1
  · rw [if_pos c, if_pos c] at fin
    simp (disch := omega) only [joinF_eq, bindO_some, s_wr, s_td, s_tm, s_pos, s_neg, cond_true, cond_false, Bool.not_true, Bool.not_false, Bool.true_and, Bool.and_true, Bool.false_and, Bool.and_false, bne_self_eq_false, decide_true, decide_false, Int.toNat_natCast]
    unfold tw
    rw [if_pos c, if_pos c]
    exact fin
  · rw [if_neg c, if_neg c] at fin
    simp (disch := omega) only [joinF_eq, bindO_some, s_wr, s_td, s_tm, s_pos, s_neg, cond_true, cond_false, Bool.not_true, Bool.not_false, Bool.true_and, Bool.and_true, Bool.false_and, Bool.and_false, bne_self_eq_false, decide_true, decide_false, Int.toNat_natCast]
    unfold tw
    rw [if_neg c, if_neg c]
    exact fin
end
end Go.Proofs.Ytnbmldnahacnlaa
/- BitmapGrowth: Turn, Spread, the law. -/
namespace Go.Proofs.Ytnbmldnahacnlaa
open Go Go.RowKit
set_option linter.unusedSimpArgs false
set_option linter.unusedSectionVars false
set_option linter.unusedVariables false

def par (i : Nat) (a b : Int) : Int := if i % 2 = 1 then b else a
def rot (w h : Int) (P : Int → Int → Bool) : Nat → Int → Int → Bool
  | 0 => P
  | i + 1 => fun x y => inB (par i w h) (par i h w) (rot w h P i) y (par i h w - 1 - x)
theorem par_succ (i : Nat) (a b : Int) : par (i + 1) a b = par i b a := by
  unfold par
  by_cases c : i % 2 = 1
  · rw [if_neg (by omega), if_pos c]
  · rw [if_pos (by omega), if_neg c]
theorem inB_in {w h x y : Int} {P : Int → Int → Bool} (hx : 0 ≤ x ∧ x < w ∧ 0 ≤ y ∧ y < h) : inB w h P x y = P x y := by
  unfold inB
  rw [decide_eq_true hx, Bool.true_and]
theorem rot_turn {w h k : Int} {P : Int → Int → Bool} (hw : 1 ≤ w) (hh : 1 ≤ h) (hk0 : 0 ≤ k) (hk1 : k ≤ 7) : canon (par (k % 4).toNat w h) (par (k % 4).toNat h w) (rot w h (fun x y => P (srcM w k x) y) (k % 4).toNat) = canon (tw w h k) (tw h w k) (turnP w h k P) := by
  have e : par (k % 4).toNat w h = tw w h k ∧ par (k % 4).toNat h w = tw h w k := by
    unfold par tw
    by_cases c : k % 2 = 1
    · have c' : (k % 4).toNat % 2 = 1 := by omega
      rw [if_pos c', if_pos c, if_pos c', if_pos c]; exact ⟨rfl, rfl⟩
    · have c' : ¬ (k % 4).toNat % 2 = 1 := by omega
      rw [if_neg c', if_neg c, if_neg c', if_neg c]; exact ⟨rfl, rfl⟩
  rw [e.1, e.2]
  refine canon_congr (by unfold tw; split <;> omega) fun x y hx0 hx1 hy0 hy1 => ?_
  unfold tw at hx1 hy1
  unfold turnP srcI srcJ
  by_cases c0 : k % 4 = 0
  · rw [if_pos c0, if_pos c0, c0]; rfl
  by_cases c1 : k % 4 = 1
  · rw [if_neg c0, if_pos c1, if_neg c0, if_pos c1, c1]
    rw [if_pos (by omega)] at hx1 hy1
    show inB w h _ y (h - 1 - x) = _
    rw [inB_in (by omega)]; rfl
  by_cases c2 : k % 4 = 2
  · rw [if_neg c0, if_neg c1, if_pos c2, if_neg c0, if_neg c1, if_pos c2, c2]
    rw [if_neg (by omega)] at hx1 hy1
    show inB h w (fun x y => inB w h _ y (h - 1 - x)) y (w - 1 - x) = _
    rw [inB_in (by omega), inB_in (by omega)]; rfl
  · rw [if_neg c0, if_neg c1, if_neg c2, if_neg c0, if_neg c1, if_neg c2, show k % 4 = 3 by omega]
    rw [if_pos (by omega)] at hx1 hy1
    show inB w h (fun x y => inB h w (fun x y => inB w h _ y (h - 1 - x)) y (w - 1 - x)) y (h - 1 - x) = _
    rw [inB_in (by omega), inB_in (by omega), inB_in (by omega)]
    show P (srcM w k (w - 1 - y)) (h - 1 - (h - 1 - x)) = _
    rw [show h - 1 - (h - 1 - x) = x by omega]
section
variable {fu : Nat} (hf : 18446744073709551616 ≤ fu) {w h : Int} {ds : List Int} (hb : Bytes ds)
include hf
theorem turned_l4 {y : Int} {P : Int → Int → Bool} {i : Int} {j3 : Int × List Int → Option ((Int × Int × List Int) × Unit)} {v3 : Int × List Int} (hw0 : 0 < w) (hw1 : w ≤ 1024) (hh1 : h ≤ 1024) (hy0 : 0 ≤ y) (hy1 : y < w) (hh0 : 0 < h) (hv : v3.1 = y) :
    loopF (bitmap_Turned_l4 fu (i, (w, (h, canon w h P))) v3 y j3) fu (0, canon h w (fun a b => inB w h P b (h - 1 - a) && decide (b < y))) = j3 (y + 1, canon h w (fun a b => inB w h P b (h - 1 - a) && decide (b < y + 1))) := by
  refine row_spec hf (F := fun a b => inB w h P b (h - 1 - a)) hh0 hh1 hy0 hy1 hw1 (fun j x ds h0 h1 => ?_) (fun j x ds h1 => ?_)
  · unfold bitmap_Turned_l4
    simp (disch := omega) only [joinF_eq, bindO_some, s_wr, s_td, s_tm, s_pos, s_neg, cond_true, cond_false, Bool.not_true, Bool.not_false, Bool.true_and, Bool.and_true, Bool.false_and, Bool.and_false, bne_self_eq_false, decide_true, decide_false, Int.toNat_natCast, is_c]
    cases inB w h P y (h - 1 - x) <;> simp (disch := omega) only [joinF_eq, bindO_some, s_wr, s_td, s_tm, s_pos, s_neg, cond_true, cond_false, Bool.not_true, Bool.not_false, Bool.true_and, Bool.and_true, Bool.false_and, Bool.and_false, bne_self_eq_false, decide_true, decide_false, Int.toNat_natCast, bitmap_Turned_j5, markF]
  · unfold bitmap_Turned_l4
    simp (disch := omega) only [joinF_eq, bindO_some, s_wr, s_td, s_tm, s_pos, s_neg, cond_true, cond_false, Bool.not_true, Bool.not_false, Bool.true_and, Bool.and_true, Bool.false_and, Bool.and_false, bne_self_eq_false, decide_true, decide_false, Int.toNat_natCast]
    rw [hv]
theorem turned_j1 {P : Int → Int → Bool} {k : Int} (hk0 : 0 ≤ k) (hk1 : k ≤ 7) (d1 : 1 ≤ w) (d2 : w ≤ 1024) (d3 : 1 ≤ h) (d4 : h ≤ 1024) :
    bitmap_Turned_j1 fu ((w, (h, ds)), (k, ())) (w, (h, canon w h P)) = some ((par (k % 4).toNat w h, (par (k % 4).toNat h w, canon (par (k % 4).toNat w h) (par (k % 4).toNat h w) (rot w h P (k % 4).toNat))), ()) := by
  unfold bitmap_Turned_j1
  refine loopF_spec (fun v => (k % 4 - v.1).toNat) (fun v : Int × Int × Int × List Int => 0 ≤ v.1 ∧ v.1 ≤ k % 4 ∧ v.2 = (par v.1.toNat w h, (par v.1.toNat h w, canon (par v.1.toNat w h) (par v.1.toNat h w) (rot w h P v.1.toNat)))) (fun _ => some ((par (k % 4).toNat w h, (par (k % 4).toNat h w, canon (par (k % 4).toNat w h) (par (k % 4).toNat h w) (rot w h P (k % 4).toNat))), ())) ?_ fu (0, (w, (h, _))) ⟨by omega, by simp only; omega, rfl⟩ (by simp only; omega)
  rintro j ⟨i, v⟩ ⟨k0, k1, kv⟩ ih
  simp only at k0 k1 kv
  subst kv
  unfold bitmap_Turned_l2
  have hW : 1 ≤ par i.toNat w h ∧ par i.toNat w h ≤ 1024 ∧ 1 ≤ par i.toNat h w ∧ par i.toNat h w ≤ 1024 := by unfold par; split <;> omega
  by_cases hi : i < k % 4
  · have e1 := par_succ i.toNat w h
    have e2 := par_succ i.toNat h w
    have e3 : ∀ x y, rot w h P (i.toNat + 1) x y = inB (par i.toNat w h) (par i.toNat h w) (rot w h P i.toNat) y (par i.toNat h w - 1 - x) := fun x y => rfl
    generalize par i.toNat w h = W at *
    generalize par i.toNat h w = H at *
    generalize rot w h P i.toNat = R at *
    obtain ⟨b1, b2, b3, b4⟩ := strd_bd (w := H) (h := W) (by omega) (by omega) (by omega) (by omega)
    simp (disch := omega) only [joinF_eq, bindO_some, s_wr, s_td, s_tm, s_pos, s_neg, cond_true, cond_false, Bool.not_true, Bool.not_false, Bool.true_and, Bool.and_true, Bool.false_and, Bool.and_false, bne_self_eq_false, decide_true, decide_false, Int.toNat_natCast]
    rw [stride_r fu (by omega) (by omega)]
    simp (disch := omega) only [joinF_eq, bindO_some, s_wr, s_td, s_tm, s_pos, s_neg, cond_true, cond_false, Bool.not_true, Bool.not_false, Bool.true_and, Bool.and_true, Bool.false_and, Bool.and_false, bne_self_eq_false, decide_true, decide_false, Int.toNat_natCast]
    rw [all_spec hf (w := H) (h := W) (F := fun a b => inB W H R b (H - 1 - a)) (fin := fun ds => j (i + 1, (H, (W, ds)))) (by omega) (by omega) (fun j y hy0 hy1 => ?_) (fun j y ds hy => ?_) (by omega)]
    · refine ih (i + 1, _) ⟨by simp only; omega, by simp only; omega, ?_⟩ (by simp only; omega)
      simp only
      rw [show (i + 1).toNat = i.toNat + 1 by omega, e1, e2, show rot w h P (i.toNat + 1) = fun a b => inB W H R b (H - 1 - a) from funext fun x => funext fun y => e3 x y]
    · unfold bitmap_Turned_l3
      simp (disch := omega) only [joinF_eq, bindO_some, s_wr, s_td, s_tm, s_pos, s_neg, cond_true, cond_false, Bool.not_true, Bool.not_false, Bool.true_and, Bool.and_true, Bool.false_and, Bool.and_false, bne_self_eq_false, decide_true, decide_false, Int.toNat_natCast]
      exact turned_l4 hf (by omega) (by omega) (by omega) hy0 hy1 (by omega) rfl
    · unfold bitmap_Turned_l3
      simp (disch := omega) only [joinF_eq, bindO_some, s_wr, s_td, s_tm, s_pos, s_neg, cond_true, cond_false, Bool.not_true, Bool.not_false, Bool.true_and, Bool.and_true, Bool.false_and, Bool.and_false, bne_self_eq_false, decide_true, decide_false, Int.toNat_natCast]
  · have e : i = k % 4 := by omega
    rw [← e]
    simp (disch := omega) only [joinF_eq, bindO_some, s_wr, s_td, s_tm, s_pos, s_neg, cond_true, cond_false, Bool.not_true, Bool.not_false, Bool.true_and, Bool.and_true, Bool.false_and, Bool.and_false, bne_self_eq_false, decide_true, decide_false, Int.toNat_natCast]
include hb
theorem turned_r (h0 : bitsE w h ds = 0) {k : Int} (hk0 : 0 ≤ k) (hk1 : k ≤ 7) :
    bitmap_Turned_r fu ((w, (h, ds)), (k, ())) = some ((tw w h k, (tw h w k, canon (tw w h k) (tw h w k) (turnP w h k (pixB w h ds)))), ()) := by
  obtain ⟨d1, d2, d3, d4, d5⟩ := bitsE_dim h0
  obtain ⟨b1, b2, b3, b4⟩ := strd_bd (w := w) (h := h) (by omega) d2 (by omega) d4
  have e : par (k % 4).toNat w h = tw w h k ∧ par (k % 4).toNat h w = tw h w k := by
    unfold par tw
    by_cases c : k % 2 = 1
    · have c' : (k % 4).toNat % 2 = 1 := by omega
      rw [if_pos c', if_pos c, if_pos c', if_pos c]; exact ⟨rfl, rfl⟩
    · have c' : ¬ (k % 4).toNat % 2 = 1 := by omega
      rw [if_neg c', if_neg c, if_neg c', if_neg c]; exact ⟨rfl, rfl⟩
  have fin : bitmap_Turned_j1 fu ((w, (h, ds)), (k, ())) (w, (h, canon w h (fun x y => pixB w h ds (srcM w k x) y))) = some ((tw w h k, (tw h w k, canon (tw w h k) (tw h w k) (turnP w h k (pixB w h ds)))), ()) := by
    rw [turned_j1 hf hk0 hk1 d1 d2 d3 d4, rot_turn d1 d3 hk0 hk1, e.1, e.2]
  unfold bitmap_Turned_r
  by_cases c : 4 ≤ k
  · have hs : (fun x y => pixB w h ds (srcM w k x) y) = fun x y => pixB w h ds (w - 1 - x) y := by
      funext x y
      unfold srcM
      rw [if_pos c]
    rw [hs] at fin
    simp (disch := omega) only [joinF_eq, bindO_some, s_wr, s_td, s_tm, s_pos, s_neg, cond_true, cond_false, Bool.not_true, Bool.not_false, Bool.true_and, Bool.and_true, Bool.false_and, Bool.and_false, bne_self_eq_false, decide_true, decide_false, Int.toNat_natCast]
    rw [stride_r fu (by omega) (by omega)]
    simp (disch := omega) only [joinF_eq, bindO_some, s_wr, s_td, s_tm, s_pos, s_neg, cond_true, cond_false, Bool.not_true, Bool.not_false, Bool.true_and, Bool.and_true, Bool.false_and, Bool.and_false, bne_self_eq_false, decide_true, decide_false, Int.toNat_natCast]
    rw [all_spec hf (F := fun x y => pixB w h ds (w - 1 - x) y) (fin := fun ds' => bitmap_Turned_j1 fu ((w, (h, ds)), (k, ())) (w, (h, ds'))) (by omega) (by omega) (fun j y hy0 hy1 => ?_) (fun j y ds hy => ?_) d4]
    · exact fin
    · unfold bitmap_Turned_l6
      simp (disch := omega) only [joinF_eq, bindO_some, s_wr, s_td, s_tm, s_pos, s_neg, cond_true, cond_false, Bool.not_true, Bool.not_false, Bool.true_and, Bool.and_true, Bool.false_and, Bool.and_false, bne_self_eq_false, decide_true, decide_false, Int.toNat_natCast]
      refine row_spec hf (F := fun x y => pixB w h ds (w - 1 - x) y) (by omega) d2 hy0 hy1 d4 (fun j x ds' h0 h1 => ?_) (fun j x ds h1 => ?_)
      · unfold bitmap_Turned_l7
        simp (disch := omega) only [joinF_eq, bindO_some, s_wr, s_td, s_tm, s_pos, s_neg, cond_true, cond_false, Bool.not_true, Bool.not_false, Bool.true_and, Bool.and_true, Bool.false_and, Bool.and_false, bne_self_eq_false, decide_true, decide_false, Int.toNat_natCast]
        rw [is_r fu (by omega) d2 d4 d5 hb]
        simp (disch := omega) only [joinF_eq, bindO_some, s_wr, s_td, s_tm, s_pos, s_neg, cond_true, cond_false, Bool.not_true, Bool.not_false, Bool.true_and, Bool.and_true, Bool.false_and, Bool.and_false, bne_self_eq_false, decide_true, decide_false, Int.toNat_natCast]
        cases pixB w h ds (w - 1 - x) y <;> simp (disch := omega) only [joinF_eq, bindO_some, s_wr, s_td, s_tm, s_pos, s_neg, cond_true, cond_false, Bool.not_true, Bool.not_false, Bool.true_and, Bool.and_true, Bool.false_and, Bool.and_false, bne_self_eq_false, decide_true, decide_false, Int.toNat_natCast, bitmap_Turned_j8, markF]
      · unfold bitmap_Turned_l7
        simp (disch := omega) only [joinF_eq, bindO_some, s_wr, s_td, s_tm, s_pos, s_neg, cond_true, cond_false, Bool.not_true, Bool.not_false, Bool.true_and, Bool.and_true, Bool.false_and, Bool.and_false, bne_self_eq_false, decide_true, decide_false, Int.toNat_natCast]
    · unfold bitmap_Turned_l6
      simp (disch := omega) only [joinF_eq, bindO_some, s_wr, s_td, s_tm, s_pos, s_neg, cond_true, cond_false, Bool.not_true, Bool.not_false, Bool.true_and, Bool.and_true, Bool.false_and, Bool.and_false, bne_self_eq_false, decide_true, decide_false, Int.toNat_natCast]
  · have hs : (fun x y => pixB w h ds (srcM w k x) y) = pixB w h ds := by
      funext x y
      unfold srcM
      rw [if_neg c]
    rw [hs, ← canon_self hb h0] at fin
    simp (disch := omega) only [joinF_eq, bindO_some, s_wr, s_td, s_tm, s_pos, s_neg, cond_true, cond_false, Bool.not_true, Bool.not_false, Bool.true_and, Bool.and_true, Bool.false_and, Bool.and_false, bne_self_eq_false, decide_true, decide_false, Int.toNat_natCast]
    exact fin
theorem turn_bad {k : Int} (h0 : bitsE w h ds ≠ 0) : bitmap_Turn_r fu ((w, (h, ds)), (k, ())) = some ((0, (0, [])), (bitsE w h ds, ())) := by
  unfold bitmap_Turn_r
  rw [check_r hf hb]
  simp (disch := omega) only [joinF_eq, bindO_some, s_wr, s_td, s_tm, s_pos, s_neg, cond_true, cond_false, Bool.not_true, Bool.not_false, Bool.true_and, Bool.and_true, Bool.false_and, Bool.and_false, bne_self_eq_false, decide_true, decide_false, Int.toNat_natCast]
theorem spread_bad {k : Int} (h0 : bitsE w h ds ≠ 0) : bitmap_Spread_r fu ((w, (h, ds)), (k, ())) = some ((0, (0, [])), (bitsE w h ds, ())) := by
  unfold bitmap_Spread_r
  rw [check_r hf hb]
  simp (disch := omega) only [joinF_eq, bindO_some, s_wr, s_td, s_tm, s_pos, s_neg, cond_true, cond_false, Bool.not_true, Bool.not_false, Bool.true_and, Bool.and_true, Bool.false_and, Bool.and_false, bne_self_eq_false, decide_true, decide_false, Int.toNat_natCast]
theorem turn_out {k : Int} (h0 : bitsE w h ds = 0) (hk : ¬ (0 ≤ k ∧ k ≤ 7)) : bitmap_Turn_r fu ((w, (h, ds)), (k, ())) = some ((0, (0, [])), (3, ())) := by
  unfold bitmap_Turn_r
  rw [check_r hf hb]
  by_cases c : k < 0 <;> simp (disch := omega) only [joinF_eq, bindO_some, s_wr, s_td, s_tm, s_pos, s_neg, cond_true, cond_false, Bool.not_true, Bool.not_false, Bool.true_and, Bool.and_true, Bool.false_and, Bool.and_false, bne_self_eq_false, decide_true, decide_false, Int.toNat_natCast, bitmap_Turn_j1]
theorem spread_out {k : Int} (h0 : bitsE w h ds = 0) (hk : ¬ (0 ≤ k ∧ k ≤ 16)) : bitmap_Spread_r fu ((w, (h, ds)), (k, ())) = some ((0, (0, [])), (3, ())) := by
  unfold bitmap_Spread_r
  rw [check_r hf hb]
  by_cases c : k < 0 <;> simp (disch := omega) only [joinF_eq, bindO_some, s_wr, s_td, s_tm, s_pos, s_neg, cond_true, cond_false, Bool.not_true, Bool.not_false, Bool.true_and, Bool.and_true, Bool.false_and, Bool.and_false, bne_self_eq_false, decide_true, decide_false, Int.toNat_natCast, bitmap_Spread_j1]
theorem turn_in {k : Int} (h0 : bitsE w h ds = 0) (hk : 0 ≤ k ∧ k ≤ 7) : bitmap_Turn_r fu ((w, (h, ds)), (k, ())) = some ((tw w h k, (tw h w k, canon (tw w h k) (tw h w k) (turnP w h k (pixB w h ds)))), (0, ())) := by
  unfold bitmap_Turn_r
  rw [check_r hf hb]
  simp (disch := omega) only [joinF_eq, bindO_some, s_wr, s_td, s_tm, s_pos, s_neg, cond_true, cond_false, Bool.not_true, Bool.not_false, Bool.true_and, Bool.and_true, Bool.false_and, Bool.and_false, bne_self_eq_false, decide_true, decide_false, Int.toNat_natCast, bitmap_Turn_j1]
  rw [turned_r hf hb h0 hk.1 hk.2]
  simp (disch := omega) only [joinF_eq, bindO_some, s_wr, s_td, s_tm, s_pos, s_neg, cond_true, cond_false, Bool.not_true, Bool.not_false, Bool.true_and, Bool.and_true, Bool.false_and, Bool.and_false, bne_self_eq_false, decide_true, decide_false, Int.toNat_natCast]
theorem spread_in {k : Int} (h0 : bitsE w h ds = 0) (hk : 0 ≤ k ∧ k ≤ 16) : bitmap_Spread_r fu ((w, (h, ds)), (k, ())) = some ((w, (h, canon w h (grown w h (pixB w h ds) k.toNat))), (0, ())) := by
  unfold bitmap_Spread_r
  rw [check_r hf hb]
  simp (disch := omega) only [joinF_eq, bindO_some, s_wr, s_td, s_tm, s_pos, s_neg, cond_true, cond_false, Bool.not_true, Bool.not_false, Bool.true_and, Bool.and_true, Bool.false_and, Bool.and_false, bne_self_eq_false, decide_true, decide_false, Int.toNat_natCast, bitmap_Spread_j1]
  rw [grown_r hf hb h0 hk]
  simp (disch := omega) only [joinF_eq, bindO_some, s_wr, s_td, s_tm, s_pos, s_neg, cond_true, cond_false, Bool.not_true, Bool.not_false, Bool.true_and, Bool.and_true, Bool.false_and, Bool.and_false, bne_self_eq_false, decide_true, decide_false, Int.toNat_natCast]
open Classical in
theorem growth_j1 {n k : Int} (h0 : bitsE w h ds = 0) {s : (Int × Int × List Int) × Int × Unit} (hs : bitmap_Spread_r fu ((w, (h, ds)), (n, ())) = some s) : law_BitmapGrowth_j1 fu ((w, (h, ds)), (n, (k, ()))) s s.2.1 () = some (true, ()) := by
  obtain ⟨d1, d2, d3, d4, d5⟩ := bitsE_dim h0
  have a1 : 0 < w * h := Int.mul_pos (by omega) (by omega)
  have a2 : w * h ≤ 1048576 := by
    have := Int.mul_le_mul d2 d4 (by omega : 0 ≤ h) (by omega : (0 : Int) ≤ 1024)
    omega
  unfold law_BitmapGrowth_j1
  rw [within_r]
  by_cases hn : 0 ≤ n ∧ n ≤ 16
  · rw [spread_in hf hb h0 hn] at hs
    injection hs with hs
    subst hs
    simp (disch := omega) only [joinF_eq, bindO_some, s_wr, s_td, s_tm, s_pos, s_neg, cond_true, cond_false, Bool.not_true, Bool.not_false, Bool.true_and, Bool.and_true, Bool.false_and, Bool.and_false, bne_self_eq_false, decide_true, decide_false, Int.toNat_natCast]
    have ewh : IntKind.i64.wrap (w * h) = w * h := wr64 (x := w * h) (by omega) (by omega)
    have ewn : (w * h).toNat = (IntKind.i64.wrap (w * h)).toNat := by rw [ewh]
    rw [ewn]
    refine (onF_spec hf (n := (IntKind.i64.wrap (w * h)).toNat) (by omega) (w := w) (by omega) (G := fun i => grown w h (pixB w h ds) n.toNat (i % w) (i / w))
      (cl := fun i => R_Spread_r fu (((w, (h, ds)), ((Int.tmod i w), ((IntKind.i64.wrap (Int.tdiv i w)), (n, ()))))))
      (out := fun on => bif decide ((0 : Int) = 0) then (bindO (R_Drawn_r fu ((w, (h, (on, ()))))) fun v11 => bindO (R_SameBits_r fu (((w, (h, canon w h (grown w h (pixB w h ds) n.toNat))), ((v11.1.1, (v11.1.2.1, v11.1.2.2)), ())))) fun v12 => some ((v12.1, ()))) else some (false, ())) ?_).trans ?_
    · intro i hi0 hi1
      rw [← ewn] at hi1
      have hx0 : 0 ≤ i % w := Int.emod_nonneg _ (by omega)
      have hx1 : i % w < w := Int.emod_lt_of_pos _ (by omega)
      have hy0 : 0 ≤ i / w := Int.ediv_nonneg hi0 (by omega)
      have hy1 : i / w < h := Int.ediv_lt_of_lt_mul (by omega) (by rw [Int.mul_comm]; omega)
      simp (disch := omega) only [joinF_eq, bindO_some, s_wr, s_td, s_tm, s_pos, s_neg, cond_true, cond_false, Bool.not_true, Bool.not_false, Bool.true_and, Bool.and_true, Bool.false_and, Bool.and_false, bne_self_eq_false, decide_true, decide_false, Int.toNat_natCast]
      rw [spread_r hf hb h0 hx0 (by omega) hy0 (by omega) hn.1 hn.2]
      congr 2
      rw [Bool.eq_iff_iff, decide_eq_true_eq, grown_near (fun i j hp => ?_) _ _ _ hx0 hx1 hy0 hy1]
      unfold pixB at hp
      rw [Bool.and_eq_true, decide_eq_true_eq] at hp
      exact hp.1
    · rw [← ewn, drawn_on hf (F := grown w h (pixB w h ds) n.toNat) (by omega) d2 (by omega) d4]
      simp (disch := omega) only [joinF_eq, bindO_some, s_wr, s_td, s_tm, s_pos, s_neg, cond_true, cond_false, Bool.not_true, Bool.not_false, Bool.true_and, Bool.and_true, Bool.false_and, Bool.and_false, bne_self_eq_false, decide_true, decide_false, Int.toNat_natCast]
      rw [same_r]
      simp (disch := omega) only [joinF_eq, bindO_some, s_wr, s_td, s_tm, s_pos, s_neg, cond_true, cond_false, Bool.not_true, Bool.not_false, Bool.true_and, Bool.and_true, Bool.false_and, Bool.and_false, bne_self_eq_false, decide_true, decide_false, Int.toNat_natCast]
  · rw [spread_out hf hb h0 hn] at hs
    injection hs with hs
    subst hs
    have : (decide (0 ≤ n) && decide (n ≤ 16)) = false := by
      rw [← Bool.not_eq_true, Bool.and_eq_true, decide_eq_true_eq, decide_eq_true_eq]; exact hn
    rw [this]
    simp (disch := omega) only [joinF_eq, bindO_some, s_wr, s_td, s_tm, s_pos, s_neg, cond_true, cond_false, Bool.not_true, Bool.not_false, Bool.true_and, Bool.and_true, Bool.false_and, Bool.and_false, bne_self_eq_false, decide_true, decide_false, Int.toNat_natCast, refused_r]
theorem growth_r {n k : Int} (hwk : law_bitmapWorks_r fu () = some (true, ())) : law_BitmapGrowth_r fu ((w, (h, ds)), (n, (k, ()))) = some (true, ()) := by
  unfold law_BitmapGrowth_r
  rw [hwk]
  simp (disch := omega) only [joinF_eq, bindO_some, s_wr, s_td, s_tm, s_pos, s_neg, cond_true, cond_false, Bool.not_true, Bool.not_false, Bool.true_and, Bool.and_true, Bool.false_and, Bool.and_false, bne_self_eq_false, decide_true, decide_false, Int.toNat_natCast]
  rw [bitsErr_r hf hb]
  by_cases h0 : bitsE w h ds = 0
  · obtain ⟨s, hs⟩ : ∃ s, bitmap_Spread_r fu ((w, (h, ds)), (n, ())) = some s := by
      by_cases c : 0 ≤ n ∧ n ≤ 16
      · exact ⟨_, spread_in hf hb h0 c⟩
      · exact ⟨_, spread_out hf hb h0 c⟩
    have j1 : law_BitmapGrowth_j1 fu ((w, (h, ds)), (n, (k, ()))) s s.2.1 = fun _ => some (true, ()) := funext fun _ => growth_j1 hf hb h0 hs
    by_cases hk : 0 ≤ k ∧ k ≤ 7
    · rw [hs, turn_in hf hb h0 hk]
      simp (disch := omega) only [joinF_eq, bindO_some, s_wr, s_td, s_tm, s_pos, s_neg, cond_true, cond_false, Bool.not_true, Bool.not_false, Bool.true_and, Bool.and_true, Bool.false_and, Bool.and_false, bne_self_eq_false, decide_true, decide_false, Int.toNat_natCast]
      rw [big_r]
      simp (disch := omega) only [joinF_eq, bindO_some, s_wr, s_td, s_tm, s_pos, s_neg, cond_true, cond_false, Bool.not_true, Bool.not_false, Bool.true_and, Bool.and_true, Bool.false_and, Bool.and_false, bne_self_eq_false, decide_true, decide_false, Int.toNat_natCast]
      cases (decide (48 < w) || decide (24 < h)) with
      | true => rfl
      | false =>
        simp (disch := omega) only [joinF_eq, bindO_some, s_wr, s_td, s_tm, s_pos, s_neg, cond_true, cond_false, Bool.not_true, Bool.not_false, Bool.true_and, Bool.and_true, Bool.false_and, Bool.and_false, bne_self_eq_false, decide_true, decide_false, Int.toNat_natCast]
        rw [within_r, rturned_r hf hb h0 hk.1 hk.2]
        simp (disch := omega) only [joinF_eq, bindO_some, s_wr, s_td, s_tm, s_pos, s_neg, cond_true, cond_false, Bool.not_true, Bool.not_false, Bool.true_and, Bool.and_true, Bool.false_and, Bool.and_false, bne_self_eq_false, decide_true, decide_false, Int.toNat_natCast]
        rw [same_r]
        simp (disch := omega) only [joinF_eq, bindO_some, s_wr, s_td, s_tm, s_pos, s_neg, cond_true, cond_false, Bool.not_true, Bool.not_false, Bool.true_and, Bool.and_true, Bool.false_and, Bool.and_false, bne_self_eq_false, decide_true, decide_false, Int.toNat_natCast]
        unfold law_BitmapGrowth_j3
        simp (disch := omega) only [joinF_eq, bindO_some, s_wr, s_td, s_tm, s_pos, s_neg, cond_true, cond_false, Bool.not_true, Bool.not_false, Bool.true_and, Bool.and_true, Bool.false_and, Bool.and_false, bne_self_eq_false, decide_true, decide_false, Int.toNat_natCast]
        rw [j1]
    · rw [hs, turn_out hf hb h0 hk]
      simp (disch := omega) only [joinF_eq, bindO_some, s_wr, s_td, s_tm, s_pos, s_neg, cond_true, cond_false, Bool.not_true, Bool.not_false, Bool.true_and, Bool.and_true, Bool.false_and, Bool.and_false, bne_self_eq_false, decide_true, decide_false, Int.toNat_natCast]
      rw [big_r]
      simp (disch := omega) only [joinF_eq, bindO_some, s_wr, s_td, s_tm, s_pos, s_neg, cond_true, cond_false, Bool.not_true, Bool.not_false, Bool.true_and, Bool.and_true, Bool.false_and, Bool.and_false, bne_self_eq_false, decide_true, decide_false, Int.toNat_natCast]
      cases (decide (48 < w) || decide (24 < h)) with
      | true => rfl
      | false =>
        simp (disch := omega) only [joinF_eq, bindO_some, s_wr, s_td, s_tm, s_pos, s_neg, cond_true, cond_false, Bool.not_true, Bool.not_false, Bool.true_and, Bool.and_true, Bool.false_and, Bool.and_false, bne_self_eq_false, decide_true, decide_false, Int.toNat_natCast]
        rw [within_r]
        have : (decide (0 ≤ k) && decide (k ≤ 7)) = false := by
          rw [← Bool.not_eq_true, Bool.and_eq_true, decide_eq_true_eq, decide_eq_true_eq]; exact hk
        rw [this]
        simp (disch := omega) only [joinF_eq, bindO_some, s_wr, s_td, s_tm, s_pos, s_neg, cond_true, cond_false, Bool.not_true, Bool.not_false, Bool.true_and, Bool.and_true, Bool.false_and, Bool.and_false, bne_self_eq_false, decide_true, decide_false, Int.toNat_natCast, refused_r]
        rw [j1]
  · rw [spread_bad hf hb h0, turn_bad hf hb h0]
    simp (disch := omega) only [joinF_eq, bindO_some, s_wr, s_td, s_tm, s_pos, s_neg, cond_true, cond_false, Bool.not_true, Bool.not_false, Bool.true_and, Bool.and_true, Bool.false_and, Bool.and_false, bne_self_eq_false, decide_true, decide_false, Int.toNat_natCast, refused_r]
end
end Go.Proofs.Ytnbmldnahacnlaa
/- bitmapWorks returns true. -/
namespace Go.Proofs.Ytnbmldnahacnlaa
open Go Go.RowKit

theorem bitmapWorks_true : law_bitmapWorks_r FU () = some (true, ()) := by kernel_rfl
end Go.Proofs.Ytnbmldnahacnlaa
/- The step from a walk to a law's row, once for all laws of the seat: a law that returns true and leaves all that was there as it was. -/
namespace Go.Proofs.Ytnbmldnahacnlaa
open Go.ChangeShapes Go.WideShapes Go.ChangeAt Go.RowKit

theorem own : ownKnob Try.prog.godebug = none := by kernel_rfl
theorem laidOut : laidOutB Try.prog = true := by kernel_rfl
theorem boolT : Try.prog.underlying 4 = some .bool := Try.underlying4

theorem trodAll_stays {H : Type} {enc : TypeId × Value → H} {P : Program} (hl : laidOutB P = true) {W W' : World} (hb : Below W.heap.size W W') :
    ∀ {ts : List TypeId} {vs : List Value} {ds : List (DataW H)} {ps : List MemPlace}, (∀ t ∈ ts, P.readableRec t = true ∧ t < P.types.size) → DataW.TrodAll enc P W 0 (fun _ => true) true ts vs ds ps →
      (∀ x ∈ ps, x.block < W.heap.size) → DataW.TrodAll enc P W' 0 (fun b => decide (b < W.heap.size)) true ts vs ds ps
  | [], [], [], _, _, h, _ => h
  | t :: ts, v :: vs, d :: ds, _, hr, ⟨p, q, h1, h2, e⟩, hlt =>
    ⟨p, q, Below.trod hl (hr t (by simp)).1 (hr t (by simp)).2 h1 hb (fun x hx => hlt x (by rw [e]; simp [hx])),
      trodAll_stays hl hb (fun t' ht => hr t' (by simp [ht])) h2 (fun x hx => hlt x (by rw [e]; simp [hx])), e⟩
  | [], [], _ :: _, _, _, h, _ => h.elim
  | [], _ :: _, _, _, _, h, _ => h.elim
  | _ :: _, [], _, _, _, h, _ => h.elim
  | _ :: _, _ :: _, [], _, _, h, _ => h.elim

/-- what a law's row asks of the readable types among its parameters -/
def readsAll (P : Program) (ts : List TypeId) : Bool := ts.all fun t => P.readableRec t && decide (t < P.types.size)
theorem readsAll_all {P : Program} {ts : List TypeId} (h : readsAll P ts = true) : ∀ t ∈ ts, P.readableRec t = true ∧ t < P.types.size := by
  intro t ht
  have := List.all_eq_true.1 h t ht
  simpa using this

theorem trodAll_length {H : Type} {enc : TypeId × Value → H} {P : Program} {W : World} {base : Nat} {spare : Nat → Bool} {held : Bool} :
    ∀ {ts : List TypeId} {vs : List Value} {ds : List (DataW H)} {ps : List MemPlace}, DataW.TrodAll enc P W base spare held ts vs ds ps → ds.length = ts.length
  | [], [], [], _, _ => rfl
  | _ :: _, _ :: _, _ :: _, _, ⟨_, _, _, h2, _⟩ => by simp [trodAll_length h2]
  | [], [], _ :: _, _, h => h.elim
  | [], _ :: _, _, _, h => h.elim
  | _ :: _, [], _, _, h => h.elim
  | _ :: _, _ :: _, [], _, h => h.elim

set_option maxRecDepth 100000 in
theorem law_lifted {os : Os} (started : os.Started) {H : Type} {enc : TypeId × Value → H} {f : FuncId} {fn : Func} {s : ChangeSpec}
    (noInit : Try.checked.prog.inits.idxOf? f = none) (hfn : Try.checked.prog.funcs[f]? = some fn)
    (witness : ∃ (w : World) (tape : Tape) (i : Input), w.os = os ∧ (w.forCall tape i).Shaped Try.checked.prog ∧ i.vars = [] ∧ Input.okWide Try.checked.prog (w.forCall tape i) .any w.heap.size f i ∧
      s.pre6 enc Try.checked.prog fn [] false (w.forCall tape i).memory i.args ∧ ({} : Assume).holds Try.checked.prog (lone (Frame.enter Try.checked.prog f i.args .normal) [] (w.forCall tape i)))
    (hvars : s.vars = []) (hres : fn.resultTypes = #[4]) (hread : readsAll Try.prog fn.params.toList = true)
    (hspec : ∀ ds : List (DataW H), ds.length = fn.params.toList.length → s.fn H ds = { results := [.lit (.bool true)], args := ds })
    (walk : ∀ (W : World) (base : Nat) (args : List Value) (ds : List (DataW H)) (ps : List MemPlace),
      (∀ (j : Nat) t v, fn.params[j]? = some t → args[j]? = some v → Value.okWide Try.prog W .any base t v) → DataW.TrodAll enc Try.prog W 0 (fun _ => true) true fn.params.toList args ds ps →
      (DataW.weightsEach Try.prog fn.params.toList ds).all (· ≤ reachBytes) = true → (∀ x ∈ ps, x.block < W.heap.size) →
      Calls Try.prog f args.toArray W fun e W' => e = .returned (.bool true) ∧ Below W.heap.size W W') :
    ReturnsInHanded {} Try.checked os f .any (s.pre6 enc Try.checked.prog fn [] false) (s.post enc Try.checked.prog fn false true false false) := by
  refine returnsInHanded_of_change_sized (C := Try.checked) own started noInit hfn witness ?_
  intro W base args ds gs before hval hW _ hsz _
  have hW' := hW
  obtain ⟨p, q, hA0, hV, rfl, hfz, hnd⟩ := hW
  rw [hvars] at hV
  obtain ⟨rfl, rfl⟩ := trodVars_none hV
  have hA : DataW.TrodAll enc Try.prog W 0 (fun _ => true) true fn.params.toList args.toList ds p := hA0
  have hlen : ds.length = fn.params.toList.length := trodAll_length hA
  have hlt : ∀ x ∈ p, x.block < W.heap.size := fun x hx => hW'.lt x (by simpa using hx)
  have hargs : args.toList.toArray = args := by simp
  have hsz' : (DataW.weightsEach Try.prog fn.params.toList ds).all (· ≤ reachBytes) = true := by
    have h := hsz
    have hvt : s.plain.varTypes Try.checked.prog = [] := by simp [DataSpec.varTypes, ChangeSpec.plain, hvars]
    rw [hvt] at h
    simp only [List.append_nil] at h
    exact h
  have hw := walk W base args.toList ds p (fun j t v ht hv => hval j t v ht (by simpa using hv)) hA hsz' hlt
  rw [hargs] at hw
  refine hw.mono fun e W' ⟨he, hb⟩ => ⟨.bool true, he, ?_⟩
  have hsf : s.fn H (ds ++ []) = { results := [.lit (.bool true)], args := ds } := by rw [List.append_nil]; exact hspec ds hlen
  refine ⟨ds, [], p ++ [], [], p, [], hW', ?_, ?_, ?_, hb.frame _, fun h => by cases h⟩
  · rw [hsf, hres]
    exact trodAll_mk1 (shut_bool boolT true)
  · rw [hsf]
    exact trodAll_stays laidOut hb (readsAll_all hread) hA hlt
  · rw [hsf, hvars]
    rfl
end Go.Proofs.Ytnbmldnahacnlaa
/- Arguments opened: what slices and structs of numbers read as. -/
set_option maxRecDepth 100000
namespace Go.Proofs.Ytnbmldnahacnlaa
open Go.ChangeShapes Go.WideShapes Go.ChangeAt Go.RowKit Go.Deep

theorem choose_list {α : Type} {n : Nat} {Q : Nat → α → Prop} (h : ∀ i, i < n → ∃ p, Q i p) : ∃ l : List α, l.length = n ∧ ∀ i p, l[i]? = some p → Q i p := by
  induction n with
  | zero => exact ⟨[], rfl, by intro i p hi; simp at hi⟩
  | succ n ih =>
    obtain ⟨l, hl, hq⟩ := ih (fun i hi => h i (by omega))
    obtain ⟨p, hp⟩ := h n (by omega)
    refine ⟨l ++ [p], by simp [hl], fun i q hi => ?_⟩
    rcases Nat.lt_trichotomy i n with hlt | rfl | hgt
    · rw [List.getElem?_append_left (by omega)] at hi
      exact hq i q hi
    · rw [List.getElem?_append_right (by omega), hl] at hi
      simp at hi
      subst hi; exact hp
    · rw [List.getElem?_eq_none (by simp; omega)] at hi
      cases hi

section
variable {H : Type} {enc : TypeId × Value → H} {P : Program} {w : World} {base : Nat} {spare : Nat → Bool} {held : Bool}
/-- a slice, whatever its elements: of each element its cells and its reading -/
theorem rd_slice {t e : TypeId} {fuel : Nat} {v : Value} {x : DataW H × List MemPlace} (ht : P.underlying t = some (.slice e)) (hc : 0 < P.cellsOf e) (h : DataW.trod enc P w base spare held fuel t [v] = some x) :
    ∃ A n c, v = .slice A n c ∧ n ≤ c ∧ c ≤ maxLen ∧ ∀ i, i < n → ∃ b o cs n' x', A = some ⟨b, o, none⟩ ∧ cs.length = P.cellsOf e ∧ (∀ j u, cs[j]? = some u → w.cell? ⟨b, o + i * P.cellsOf e + j, none⟩ = some u) ∧
      DataW.trod enc P w base spare held n' e cs = some x' := by
  rcases open_slice ht h with ⟨h0, _⟩ | ⟨a, len, cap, m, n', D, Pl, hcs, _, hl, hm, hmm, _, hi⟩
  · simp at h0
    subst h0
    exact ⟨none, 0, 0, rfl, by omega, by unfold maxLen; omega, by intro i hi; omega⟩
  · simp at hcs
    subst hcs
    refine ⟨some a, len, cap, rfl, hl, hm, fun i hil => ?_⟩
    have hlm : len ≤ m := by rw [hmm]; split <;> omega
    obtain ⟨cs, h1, h2⟩ := hi i (by omega)
    obtain ⟨hb, hlen, hat⟩ := World.cells?_some h1
    obtain ⟨b, o, spot⟩ := a
    have h00 := hat 0 (by omega)
    have hsp : spot = none := by
      obtain ⟨cs0, g1, _⟩ := hi 0 (by omega)
      obtain ⟨_, gl, gat⟩ := World.cells?_some g1
      have hx := gat 0 (by omega)
      rw [List.getElem?_eq_getElem (by omega)] at hx
      simpa [Addr.add] using World.cell?_spot hx
    subst hsp
    refine ⟨b, o, cs, n', _, rfl, hlen, ?_, h2⟩
    intro j u hu
    have hjl : j < P.cellsOf e := by rw [← hlen]; exact (List.getElem?_eq_some_iff.1 hu).1
    have := hat j hjl
    rw [hu, Addr.add_lit, Addr.add_lit] at this
    exact this
/-- a struct's fields -/
theorem rd_field {t : TypeId} {fs : Array Field} {fuel : Nat} {cs : List Value} {x : DataW H × List MemPlace} (ht : P.underlying t = some (.struct fs)) (h : DataW.trod enc P w base spare held fuel t cs = some x) (i : Nat) (f : Field) (hf : fs[i]? = some f) :
    ∃ n y, DataW.trod enc P w base spare held n f.type ((cs.drop f.offset).take (P.cellsOf f.type)) = some y := by
  obtain ⟨xs, n, _, _, _, hxl, hat⟩ := DataW.trod_struct ht h
  have hi : i < xs.length := by rw [hxl]; exact (Array.getElem?_eq_some_iff.1 hf).1
  exact ⟨n, _, by rw [hat i f hf, List.getElem?_eq_getElem hi]⟩
/-- a field of one cell -/
theorem rd_field1 {t tt : TypeId} {fs : Array Field} {off : Nat} {fuel : Nat} {cs : List Value} {x : DataW H × List MemPlace} {u : Value} (ht : P.underlying t = some (.struct fs)) (h : DataW.trod enc P w base spare held fuel t cs = some x) (i : Nat)
    (hf : (fs[i]?).map (fun f => (f.type, f.offset)) = some (tt, off)) (hc : P.cellsOf tt = 1) (hu : cs[off]? = some u) : ∃ n y, DataW.trod enc P w base spare held n tt [u] = some y := by
  obtain ⟨f, h1, h2⟩ := Option.map_eq_some_iff.1 hf
  simp only [Prod.mk.injEq] at h2
  obtain ⟨n, y, hg⟩ := rd_field ht h i f h1
  rw [h2.1, h2.2, hc] at hg
  have hl : off < cs.length := (List.getElem?_eq_some_iff.1 hu).1
  have hd : (cs.drop off).take 1 = [u] := by
    rw [List.drop_eq_getElem_cons hl]
    have : cs[off] = u := (List.getElem?_eq_some_iff.1 hu).2
    rw [this]; rfl
  rw [hd] at hg
  exact ⟨n, y, hg⟩
/-- a field of several cells (a struct or an array in a struct) -/
theorem rd_fieldN {t tt : TypeId} {fs : Array Field} {off k : Nat} {fuel : Nat} {cs : List Value} {x : DataW H × List MemPlace} (ht : P.underlying t = some (.struct fs)) (h : DataW.trod enc P w base spare held fuel t cs = some x) (i : Nat)
    (hf : (fs[i]?).map (fun f => (f.type, f.offset)) = some (tt, off)) (hc : P.cellsOf tt = k) : ∃ n y, DataW.trod enc P w base spare held n tt ((cs.drop off).take k) = some y := by
  obtain ⟨f, h1, h2⟩ := Option.map_eq_some_iff.1 hf
  simp only [Prod.mk.injEq] at h2
  obtain ⟨n, y, hg⟩ := rd_field ht h i f h1
  rw [h2.1, h2.2, hc] at hg
  exact ⟨n, y, hg⟩
theorem rd_int {t : TypeId} {k : IntKind} {fuel : Nat} {v : Value} {x : DataW H × List MemPlace} (ht : P.underlying t = some (.int k)) (h : DataW.trod enc P w base spare held fuel t [v] = some x) : ∃ n, v = .int k n ∧ (Lit.int k n).wf = true := by
  obtain ⟨n, h1, _, h3⟩ := DataW.trod_int ht h
  exact ⟨n, by simpa using h1, h3⟩
end

theorem cells_int : Try.prog.cellsOf 3 = 1 := by kernel_rfl
theorem wf_bd {x : Int} (h : (Lit.int .i64 x).wf = true) : -9223372036854775808 ≤ x ∧ x ≤ 9223372036854775807 := by
  simpa [Lit.wf, IntKind.min, IntKind.max, IntKind.signed, IntKind.bits] using h
end Go.Proofs.Ytnbmldnahacnlaa
/- Arguments opened, as abstract values. -/
set_option maxRecDepth 100000
namespace Go.Proofs.Ytnbmldnahacnlaa
open Go Go.ChangeShapes Go.WideShapes Go.ChangeAt Go.RowKit Go.Deep

section
variable {H : Type} {enc : TypeId × Value → H} {P : Program} {w : World} {base : Nat} {spare : Nat → Bool} {held : Bool}
/-- data of the caller's -/
abbrev RelC (w : World) : AV → Value → Prop := RelD w (fun _ => False) w.heap.size
/-- one element's cells, read as enc p -/
def Reads {α : Type} (w : World) (sz : Nat) (ec : α → List AV) (Q : α → Prop) (cs : List Value) : Prop :=
  ∃ p, Q p ∧ (ec p).length = sz ∧ ∀ (j : Nat) (a : AV) (u : Value), (ec p)[j]? = some a → cs[j]? = some u → RelC w a u
theorem ro_slice {α : Type} (ec : α → List AV) (Q : α → Prop) {t e : TypeId} {sz fuel : Nat} {v : Value} {x : DataW H × List MemPlace} (ht : P.underlying t = some (.slice e)) (hz : P.cellsOf e = sz) (hc : 0 < sz)
    (hel : ∀ (fuel : Nat) (cs : List Value) (x : DataW H × List MemPlace), cs.length = sz → DataW.trod enc P w base spare held fuel e cs = some x → Reads w sz ec Q cs) (h : DataW.trod enc P w base spare held fuel t [v] = some x) :
    ∃ xs : List α, (∀ p ∈ xs, Q p) ∧ RelC w (.ro false sz (xs.map ec)) v := by
  subst hz
  obtain ⟨A, n, c, rfl, hn, hm, hi⟩ := rd_slice ht hc h
  obtain ⟨xs, hl, hq⟩ := choose_list (Q := fun i (p : α) => Q p ∧ ∃ (b o : Nat) (cs : List Value), A = some ⟨b, o, none⟩ ∧ cs.length = P.cellsOf e ∧ (∀ (j : Nat) (u : Value), cs[j]? = some u → w.cell? ⟨b, o + i * P.cellsOf e + j, none⟩ = some u) ∧ (ec p).length = P.cellsOf e ∧ ∀ (j : Nat) (a : AV) (u : Value), (ec p)[j]? = some a → cs[j]? = some u → RelC w a u) (n := n) (by
    intro i hil
    obtain ⟨b, o, cs, n', x', hA, hlen, hat, htr⟩ := hi i hil
    obtain ⟨p, h1, h2, h3⟩ := hel n' cs x' hlen htr
    exact ⟨p, h1, b, o, cs, hA, hlen, hat, h2, h3⟩)
  subst hl
  refine ⟨xs, fun p hp => ?_, ?_⟩
  · obtain ⟨i, hi⟩ := List.mem_iff_getElem?.1 hp
    exact (hq i p hi).1
  have key : ∀ (i : Nat) (row : List AV) (j : Nat) (a : AV), (xs.map ec)[i]? = some row → row[j]? = some a → ∃ b o u, A = some ⟨b, o, none⟩ ∧ w.cell? ⟨b, o + i * P.cellsOf e + j, none⟩ = some u ∧ RelC w a u := by
    intro i row j a hr ha
    rw [List.getElem?_map] at hr
    obtain ⟨p, hp, rfl⟩ := Option.map_eq_some_iff.1 hr
    obtain ⟨_, b, o, cs, hA, hlen, hat, hel, hrel⟩ := hq i p hp
    have hj : j < cs.length := by rw [hlen, ← hel]; exact (List.getElem?_eq_some_iff.1 ha).1
    have hu : cs[j]? = some cs[j] := List.getElem?_eq_getElem hj
    exact ⟨b, o, cs[j], hA, hat j _ hu, hrel j a _ ha hu⟩
  have hcon := RelD.ro (w := w) (own := fun _ => False) (bs := w.heap.size) false (P.cellsOf e) (xs.map ec) A c (fun i j => match A with
    | some ⟨b, o, _⟩ => (w.cell? ⟨b, o + i * P.cellsOf e + j, none⟩).getD undef
    | none => undef) (by simpa using hn) hm (fun i hi hA => by
      have hi : i < xs.length := by simpa using hi
      obtain ⟨_, b, o, _, h1, _⟩ := hq i xs[i] (List.getElem?_eq_getElem hi)
      rw [hA] at h1; cases h1) (fun i row j a hr ha => by
      obtain ⟨b, o, u, hA, hu, _⟩ := key i row j a hr ha
      subst hA
      exact ⟨b, o, rfl, fun h => h.elim, (fun h => by cases h), by simp [hu]⟩) (fun i row j a hr ha => by
      obtain ⟨b, o, u, hA, hu, hr⟩ := key i row j a hr ha
      subst hA
      simpa [hu] using hr)
  rw [List.length_map] at hcon
  exact hcon
theorem reads_int {k : IntKind} {e : TypeId} (ht : P.underlying e = some (.int k)) (fuel : Nat) (cs : List Value) (x : DataW H × List MemPlace) (hl : cs.length = 1) (h : DataW.trod enc P w base spare held fuel e cs = some x) :
    Reads w 1 (eI k) (fun n => (Lit.int k n).wf = true) cs := by
  obtain ⟨u, rfl⟩ : ∃ u, cs = [u] := by match cs, hl with | [u], _ => exact ⟨u, rfl⟩
  obtain ⟨n, rfl, hwf⟩ := rd_int ht h
  refine ⟨n, hwf, rfl, fun j a u ha hu => ?_⟩
  match j with
  | 0 => simp [eI] at ha hu; subst ha; subst hu; exact .int _ _
  | j + 1 => simp [eI] at ha
theorem reads_bool {e : TypeId} (ht : P.underlying e = some .bool) (fuel : Nat) (cs : List Value) (x : DataW H × List MemPlace) (hl : cs.length = 1) (h : DataW.trod enc P w base spare held fuel e cs = some x) :
    Reads w 1 eB (fun _ => True) cs := by
  obtain ⟨u, rfl⟩ : ∃ u, cs = [u] := by match cs, hl with | [u], _ => exact ⟨u, rfl⟩
  obtain ⟨n, h1, _⟩ := DataW.trod_bool ht h
  simp at h1
  subst h1
  refine ⟨n, trivial, rfl, fun j a u ha hu => ?_⟩
  match j with
  | 0 => simp [eB] at ha hu; subst ha; subst hu; exact .bool _
  | j + 1 => simp [eB] at ha
/-- three numbers in a struct -/
theorem reads_three {e ti : TypeId} {fs : Array Field} (ht : P.underlying e = some (.struct fs)) (hi : P.underlying ti = some (.int .i64)) (hc : P.cellsOf ti = 1) (f0 : (fs[0]?).map (fun f => (f.type, f.offset)) = some (ti, 0)) (f1 : (fs[1]?).map (fun f => (f.type, f.offset)) = some (ti, 1)) (f2 : (fs[2]?).map (fun f => (f.type, f.offset)) = some (ti, 2))
    (fuel : Nat) (cs : List Value) (x : DataW H × List MemPlace) (hl : cs.length = 3) (h : DataW.trod enc P w base spare held fuel e cs = some x) :
    Reads w 3 eT (fun p => (Lit.int .i64 p.1).wf = true ∧ (Lit.int .i64 p.2.1).wf = true ∧ (Lit.int .i64 p.2.2).wf = true) cs := by
  obtain ⟨u0, u1, u2, rfl⟩ : ∃ u0 u1 u2, cs = [u0, u1, u2] := by match cs, hl with | [u0, u1, u2], _ => exact ⟨u0, u1, u2, rfl⟩
  obtain ⟨_, _, g0⟩ := rd_field1 (u := u0) ht h 0 f0 hc rfl
  obtain ⟨_, _, g1⟩ := rd_field1 (u := u1) ht h 1 f1 hc rfl
  obtain ⟨_, _, g2⟩ := rd_field1 (u := u2) ht h 2 f2 hc rfl
  obtain ⟨n0, rfl, w0⟩ := rd_int hi g0
  obtain ⟨n1, rfl, w1⟩ := rd_int hi g1
  obtain ⟨n2, rfl, w2⟩ := rd_int hi g2
  refine ⟨(n0, n1, n2), ⟨w0, w1, w2⟩, rfl, fun j a u ha hu => ?_⟩
  match j with
  | 0 => simp [eT] at ha hu; subst ha; subst hu; exact .int _ _
  | 1 => simp [eT] at ha hu; subst ha; subst hu; exact .int _ _
  | 2 => simp [eT] at ha hu; subst ha; subst hu; exact .int _ _
  | j + 3 => simp [eT] at ha
theorem arg_ro {α : Type} (ec : α → List AV) (Q : α → Prop) {t e : TypeId} {sz : Nat} {v : Value} {d : DataW H} {p : List MemPlace} (ht : P.underlying t = some (.slice e)) (hz : P.cellsOf e = sz) (hc : 0 < sz)
    (hel : ∀ (fuel : Nat) (cs : List Value) (x : DataW H × List MemPlace), cs.length = sz → DataW.trod enc P w 0 spare held fuel e cs = some x → Reads w sz ec Q cs) (hv : Value.okWide P w .any base t v) (h : DataW.Trod enc P w 0 spare held t v d p) :
    ∃ xs : List α, (∀ p ∈ xs, Q p) ∧ RelC w (.ro false sz (xs.map ec)) v := by
  obtain ⟨a, n, c, rfl⟩ := okWide_slice ht hv
  obtain ⟨fuel, hf⟩ := h
  exact ro_slice ec Q ht hz hc hel hf
end
theorem argsC {w : World} {xs : List AV} {vs : Array Value} (hl : vs.size = xs.length) (h : ∀ (i : Nat) (a : AV) (v : Value), xs[i]? = some a → vs[i]? = some v → RelC w a v) : ArgsV w (Gh.none w.heap.size) xs vs :=
  ⟨hl, fun i a v ha hv => .dat (h i a v ha hv)⟩
theorem argsC1 {w : World} {x : AV} {u : Value} (h0 : RelC w x u) : ArgsV w (Gh.none w.heap.size) [x] #[u] := argsC rfl fun i a v ha hv => by
  match i with
  | 0 => simp at ha hv; subst ha; subst hv; exact h0
  | i + 1 => simp at ha
theorem argsC2 {w : World} {x0 x1 : AV} {u0 u1 : Value} (h0 : RelC w x0 u0) (h1 : RelC w x1 u1) : ArgsV w (Gh.none w.heap.size) [x0, x1] #[u0, u1] := argsC rfl fun i a v ha hv => by
  match i with
  | 0 => simp at ha hv; subst ha; subst hv; exact h0
  | 1 => simp at ha hv; subst ha; subst hv; exact h1
  | i + 2 => simp at ha
theorem argsC3 {w : World} {x0 x1 x2 : AV} {u0 u1 u2 : Value} (h0 : RelC w x0 u0) (h1 : RelC w x1 u1) (h2 : RelC w x2 u2) : ArgsV w (Gh.none w.heap.size) [x0, x1, x2] #[u0, u1, u2] := argsC rfl fun i a v ha hv => by
  match i with
  | 0 => simp at ha hv; subst ha; subst hv; exact h0
  | 1 => simp at ha hv; subst ha; subst hv; exact h1
  | 2 => simp at ha hv; subst ha; subst hv; exact h2
  | i + 3 => simp at ha
theorem argsC4 {w : World} {x0 x1 x2 x3 : AV} {u0 u1 u2 u3 : Value} (h0 : RelC w x0 u0) (h1 : RelC w x1 u1) (h2 : RelC w x2 u2) (h3 : RelC w x3 u3) : ArgsV w (Gh.none w.heap.size) [x0, x1, x2, x3] #[u0, u1, u2, u3] := argsC rfl fun i a v ha hv => by
  match i with
  | 0 => simp at ha hv; subst ha; subst hv; exact h0
  | 1 => simp at ha hv; subst ha; subst hv; exact h1
  | 2 => simp at ha hv; subst ha; subst hv; exact h2
  | 3 => simp at ha hv; subst ha; subst hv; exact h3
  | i + 4 => simp at ha
/-- a law that answers true -/
theorem AF.yes {P : Program} {F : FuncId} {xs : List AV} {vs : Array Value} {w : World} (h : AF P F xs (.bool true)) (ha : ArgsV w (Gh.none w.heap.size) xs vs) : Calls P F vs w fun e w' => e = .returned (.bool true) ∧ Below w.heap.size w w' :=
  (h.out w vs ha).mono fun e w' ⟨v, he, hb, hv⟩ => ⟨by rw [he, hv.bool'], hb⟩
end Go.Proofs.Ytnbmldnahacnlaa
/- Arguments of any type, opened by one theorem; the last step of a law that a residual program answers. -/
set_option maxRecDepth 100000
namespace Go.Proofs.Ytnbmldnahacnlaa
open Go Go.ChangeShapes Go.WideShapes Go.ChangeAt Go.RowKit Go.Deep

/-- what every argument of a type meets -/
def Ty.wf : (t : Ty) → t.den → Prop
  | .int k, n => (Lit.int k n).wf = true
  | .bool, _ => True
  | .str, s => List.length s ≤ maxLen
  | .list t, xs => List.length xs ≤ maxLen ∧ ∀ x ∈ (xs : List t.den), t.wf x
  | .unit, _ => True
  | .pair a b, x => a.wf x.1 ∧ b.wf x.2
  | .agg t, x => t.wf x
  | .ptr _, _ => False
def prB (t : Ty) (f : Ty → Ty → Bool) : Bool := match t with
  | .pair x y => f x y
  | _ => false
def unB (t : Ty) : Bool := match t with
  | .unit => true
  | _ => false
theorem prB_ok {t : Ty} {f : Ty → Ty → Bool} (h : prB t f = true) : ∃ x y, t = .pair x y ∧ f x y = true := by
  unfold prB at h
  split at h
  · exact ⟨_, _, rfl, h⟩
  · cases h
theorem unB_ok {t : Ty} (h : unB t = true) : t = .unit := by
  unfold unB at h
  split at h
  · rfl
  · cases h
def fsB (g : TypeId → Ty → Bool) : List Field → Nat → Ty → Bool
  | [], _, t => unB t
  | [a], o, t => Nat.beq a.offset o && g a.type t
  | a :: b :: l, o, t => prB t fun x y => Nat.beq a.offset o && g a.type x && fsB g (b :: l) (o + x.size) y
def arB (g : Ty → Bool) : Nat → Ty → Bool
  | 0, t => unB t
  | 1, t => g t
  | n + 2, t => prB t fun x y => g x && arB g (n + 1) y
def intB (k : IntKind) (t : Ty) : Bool := match t with
  | .int k' => decide (k' = k)
  | _ => false
def boolB (t : Ty) : Bool := match t with
  | .bool => true
  | _ => false
def strB (t : Ty) : Bool := match t with
  | .str => true
  | _ => false
def sliceB (g : Ty → Bool) (t : Ty) : Bool := match t with
  | .list t' => g t' && Nat.blt 0 t'.size
  | _ => false
/-- a type as the program has it -/
def tyB (P : Program) : Nat → TypeId → Ty → Bool
  | 0, _, _ => false
  | f + 1, tid, t => Nat.beq (P.cellsOf tid) t.size && (match P.underlying tid with
    | some (.int k) => intB k t
    | some .bool => boolB t
    | some .string => strB t
    | some (.slice e) => sliceB (tyB P f e) t
    | some (.struct ⟨fs⟩) => fsB (tyB P f) fs 0 t
    | some (.array n e) => arB (tyB P f e) n t
    | _ => false)
section
variable {H : Type} {enc : TypeId × Value → H} {P : Program} {w : World} {base : Nat} {spare : Nat → Bool} {held : Bool}
abbrev ReadsT (w : World) (t : Ty) (cs : List Value) : Prop := Reads w t.size (t.cells false) t.wf cs
theorem tyB_size {f : Nat} {tid : TypeId} {t : Ty} (h : tyB P f tid t = true) : P.cellsOf tid = t.size := by
  cases f with
  | zero => cases h
  | succ f => rw [tyB, Bool.and_eq_true] at h; exact Nat.eq_of_beq_eq_true h.1
theorem ReadsT.pair {a b : Ty} {c d : List Value} (h : ReadsT w a c) (k : ReadsT w b d) (hl : c.length = a.size) : ReadsT w (.pair a b) (c ++ d) := by
  obtain ⟨x, x1, x2, x3⟩ := h
  obtain ⟨y, y1, y2, y3⟩ := k
  refine ⟨(x, y), ⟨x1, y1⟩, Ty.cells_length _ _ _, fun j v u hv hu => ?_⟩
  rw [Ty.cells] at hv
  by_cases hj : j < a.size
  · rw [List.getElem?_append_left (by rw [x2]; exact hj)] at hv
    rw [List.getElem?_append_left (by omega)] at hu
    exact x3 j v u hv hu
  · rw [List.getElem?_append_right (by rw [x2]; omega), x2] at hv
    rw [List.getElem?_append_right (by omega), hl] at hu
    exact y3 _ v u hv hu
theorem ReadsT.unit : ReadsT w .unit [] := ⟨(), trivial, rfl, fun j a u h _ => by simp [Ty.cells] at h⟩
theorem fs_reads {g : TypeId → Ty → Bool} (hg : ∀ (tid : TypeId) (t : Ty) (n : Nat) (cs : List Value) (x : DataW H × List MemPlace), g tid t = true → cs.length = t.size → DataW.trod enc P w base spare held n tid cs = some x → ReadsT w t cs) (hsz : ∀ tid t, g tid t = true → P.cellsOf tid = t.size) {cs : List Value} :
    ∀ (l : List Field) (o : Nat) (t : Ty), fsB g l o t = true → (∀ a ∈ l, ∃ n y, DataW.trod enc P w base spare held n a.type ((cs.drop a.offset).take (P.cellsOf a.type)) = some y) → o + t.size ≤ cs.length → ReadsT w t ((cs.drop o).take t.size)
  | [], o, t, h, _, _ => by
    rw [unB_ok h, show Ty.unit.size = 0 from rfl, List.take_zero]; exact .unit
  | [a], o, t, h, hr, hl => by
    rw [fsB, Bool.and_eq_true] at h
    obtain ⟨n, y, hy⟩ := hr a (by simp)
    rw [Nat.eq_of_beq_eq_true h.1, hsz _ _ h.2] at hy
    exact hg _ _ n _ y h.2 (by rw [List.length_take, List.length_drop]; omega) hy
  | a :: b :: l, o, t, h, hr, hl => by
    obtain ⟨x, y, rfl, h'⟩ := prB_ok h
    clear h
    have h := h'
    clear h'
    rw [Bool.and_eq_true, Bool.and_eq_true] at h
    obtain ⟨n, z, hz⟩ := hr a (by simp)
    rw [Nat.eq_of_beq_eq_true h.1.1, hsz _ _ h.1.2] at hz
    have hs : (Ty.pair x y).size = x.size + y.size := rfl
    rw [hs] at hl
    have h1 := hg _ _ n _ z h.1.2 (by rw [List.length_take, List.length_drop]; omega) hz
    have h2 := fs_reads hg hsz (b :: l) (o + x.size) y h.2 (fun a ha => hr a (List.mem_cons_of_mem _ ha)) (by omega)
    rw [hs, List.take_add, List.drop_drop]
    exact h1.pair h2 (by rw [List.length_take, List.length_drop]; omega)
theorem ar_reads {g : Ty → Bool} {e : TypeId} (hg : ∀ (t : Ty) (n : Nat) (cs : List Value) (x : DataW H × List MemPlace), g t = true → cs.length = t.size → DataW.trod enc P w base spare held n e cs = some x → ReadsT w t cs) (hsz : ∀ t, g t = true → P.cellsOf e = t.size) {cs : List Value} :
    ∀ (k o : Nat) (t : Ty), arB g k t = true → (∀ i, i < k → ∃ n y, DataW.trod enc P w base spare held n e ((cs.drop (o + i * P.cellsOf e)).take (P.cellsOf e)) = some y) → o + t.size ≤ cs.length → ReadsT w t ((cs.drop o).take t.size)
  | 0, o, t, h, _, _ => by
    rw [unB_ok h, show Ty.unit.size = 0 from rfl, List.take_zero]; exact .unit
  | 1, o, t, h, hr, hl => by
    rw [arB] at h
    obtain ⟨n, y, hy⟩ := hr 0 (by omega)
    rw [hsz _ h, Nat.zero_mul, Nat.add_zero] at hy
    exact hg _ n _ y h (by rw [List.length_take, List.length_drop]; omega) hy
  | k + 2, o, t, h, hr, hl => by
    obtain ⟨x, y, rfl, h'⟩ := prB_ok h
    clear h
    have h := h'
    clear h'
    rw [Bool.and_eq_true] at h
    obtain ⟨n, z, hz⟩ := hr 0 (by omega)
    rw [hsz _ h.1, Nat.zero_mul, Nat.add_zero] at hz
    have hs : (Ty.pair x y).size = x.size + y.size := rfl
    rw [hs] at hl
    have h1 := hg _ n _ z h.1 (by rw [List.length_take, List.length_drop]; omega) hz
    have h2 := ar_reads hg hsz (k + 1) (o + x.size) y h.2 (fun i hi => by
      obtain ⟨n, z, hz⟩ := hr (i + 1) (by omega)
      refine ⟨n, z, ?_⟩
      rw [← hz, ← hsz _ h.1, Nat.add_mul, Nat.one_mul, Nat.add_assoc, Nat.add_comm (P.cellsOf e)]) (by omega)
    rw [hs, List.take_add, List.drop_drop]
    exact h1.pair h2 (by rw [List.length_take, List.length_drop]; omega)
theorem ro_len {own : Nat → Prop} {bs sz : Nat} {fr : Bool} {rows : List (List AV)} {v : Value} (h : RelD w own bs (.ro fr sz rows) v) : rows.length ≤ maxLen := by
  cases h with
  | ro fr sz rows A c f hc hm h0 h1 h2 => omega
theorem one_cell {cs : List Value} (h : cs.length = 1) : ∃ u, cs = [u] := by match cs, h with | [u], _ => exact ⟨u, rfl⟩
theorem reads_ty : ∀ (f : Nat) (tid : TypeId) (t : Ty) (n : Nat) (cs : List Value) (x : DataW H × List MemPlace), tyB P f tid t = true → cs.length = t.size → DataW.trod enc P w base spare held n tid cs = some x → ReadsT w t cs
  | 0, _, _, _, _, _, h, _, _ => by cases h
  | f + 1, tid, t, n, cs, x, h, hl, hx => by
    have hsize := tyB_size h
    rw [tyB, Bool.and_eq_true] at h
    obtain ⟨_, h⟩ := h
    split at h
    · rename_i k hu
      unfold intB at h
      split at h
      · have hk := of_decide_eq_true h
        subst hk
        obtain ⟨m, rfl, _, hwf⟩ := DataW.trod_int hu hx
        refine ⟨m, hwf, rfl, fun j a u ha hu => ?_⟩
        match j with
        | 0 => simp [Ty.cells] at ha hu; subst ha; subst hu; exact .int _ _
        | j + 1 => simp [Ty.cells] at ha
      · cases h
    · rename_i hu
      unfold boolB at h
      split at h
      · obtain ⟨m, rfl, _⟩ := DataW.trod_bool hu hx
        refine ⟨m, trivial, rfl, fun j a u ha hu => ?_⟩
        match j with
        | 0 => simp [Ty.cells] at ha hu; subst ha; subst hu; exact .bool _
        | j + 1 => simp [Ty.cells] at ha
      · cases h
    · rename_i hu
      unfold strB at h
      split at h
      · obtain ⟨s, rfl, _, hs⟩ := DataW.trod_string hu hx
        refine ⟨s.data.toList, by rw [Ty.wf, Array.length_toList]; exact hs, rfl, fun j a u ha hu => ?_⟩
        match j with
        | 0 => simp [Ty.cells] at ha hu; subst ha; subst hu; exact .str _
        | j + 1 => simp [Ty.cells] at ha
      · cases h
    · rename_i e hu
      unfold sliceB at h
      split at h
      · rename_i _ t' _
        rw [Bool.and_eq_true] at h
        have hpos : 0 < t'.size := Nat.le_of_ble_eq_true h.2
        obtain ⟨v, rfl⟩ := one_cell hl
        obtain ⟨xs, hw, hr⟩ := ro_slice (t'.cells false) t'.wf hu (tyB_size h.1) hpos (fun m cs x hl hx => reads_ty f e t' m cs x h.1 hl hx) hx
        refine ⟨xs, ⟨?_, hw⟩, rfl, fun j a u ha hu => ?_⟩
        · have := ro_len hr
          rw [List.length_map] at this
          exact this
        match j with
        | 0 => simp [Ty.cells] at ha hu; subst ha; subst hu; exact hr
        | j + 1 => simp [Ty.cells] at ha
      · cases h
    · rename_i fs hu
      obtain ⟨xs, m, _, _, _, hxl, hat⟩ := DataW.trod_struct hu hx
      have := fs_reads (cs := cs) (fun tid t n cs x h1 h2 h3 => reads_ty f tid t n cs x h1 h2 h3) (fun tid t h => tyB_size h) fs 0 t h (fun a ha => by
        obtain ⟨i, hi⟩ := List.mem_iff_getElem?.1 ha
        have hi' : i < xs.length := by rw [hxl]; exact (List.getElem?_eq_some_iff.1 hi).1
        exact ⟨m, _, by rw [hat i a (by simpa using hi), List.getElem?_eq_getElem hi']⟩) (by omega)
      rw [List.drop_zero, List.take_of_length_le (by omega)] at this
      exact this
    · rename_i k e hu
      obtain ⟨xs, m, _, _, _, hxl, hat⟩ := DataW.trod_array hu hx
      have := ar_reads (cs := cs) (e := e) (fun t n cs x h1 h2 h3 => reads_ty f e t n cs x h1 h2 h3) (fun t h => tyB_size h) k 0 t h (fun i hi => by
        have hi' : i < xs.length := by rw [hxl]; exact hi
        exact ⟨m, _, by rw [Nat.zero_add, hat i hi, List.getElem?_eq_getElem hi']⟩) (by omega)
      rw [List.drop_zero, List.take_of_length_le (by omega)] at this
      exact this
    · cases h
/-! ### Arguments -/
def aggP (P : Program) (tid : TypeId) : Bool := match P.underlying tid with
  | some (.struct _) => true
  | some (.array _ _) => true
  | _ => false
def cellP (P : Program) (tid : TypeId) : Bool := match P.underlying tid with
  | some (.int _) => true
  | some .bool => true
  | some .string => true
  | some (.slice _) => true
  | _ => false
def argB (P : Program) (tid : TypeId) (a : Ty) : Bool := match a with
  | .agg t => tyB P 9 tid t && aggP P tid
  | .int k => tyB P 9 tid (.int k) && cellP P tid
  | .bool => tyB P 9 tid .bool && cellP P tid
  | .str => tyB P 9 tid .str && cellP P tid
  | .list t => tyB P 9 tid (.list t) && cellP P tid
  | _ => false
def argsB (P : Program) : List TypeId → Ty → Bool
  | [], t => unB t
  | tid :: l, t => prB t fun a b => argB P tid a && argsB P l b
theorem okWide_arr {n b : Nat} {r : Go.Reach} {t e : TypeId} {v : Value} (ht : P.underlying t = some (.array n e)) (h : Value.okWide P w r b t v) : ∃ cs, v = .agg cs ∧ cs.size = P.cellsOf t := by
  simp only [Value.okWide, ht] at h
  obtain ⟨cs, h1, h2, _⟩ := h
  exact ⟨cs, h1, h2⟩
theorem arg_agg {tid : TypeId} {t : Ty} {v : Value} {d : DataW H} {p : List MemPlace} {b : Nat} (h : tyB P 9 tid t = true) (ha : aggP P tid = true) (hv : Value.okWide P w .any b tid v) (hd : DataW.Trod enc P w base spare held tid v d p) : ∃ x : t.den, t.wf x ∧ RelV w (Gh.none w.heap.size) (.agg (t.cells false x)) v := by
  obtain ⟨cs, rfl, hs⟩ : ∃ cs, v = .agg cs ∧ cs.size = P.cellsOf tid := by
    unfold aggP at ha
    split at ha
    · rename_i h1; exact okWide_struct h1 hv
    · rename_i h1; exact okWide_arr h1 hv
    · cases ha
  obtain ⟨n, hd⟩ := hd
  have hl : cs.toList.length = t.size := by rw [← tyB_size h, ← hs]; simp
  obtain ⟨x, x1, x2, x3⟩ := reads_ty 9 tid t n cs.toList _ h hl hd
  exact ⟨x, x1, .agg _ _ (by rw [x2, ← hl]; simp) fun i a u ha hu => .dat (x3 i a u ha (by simpa using hu))⟩
theorem arg_cell {tid : TypeId} {t : Ty} {v : Value} {d : DataW H} {p : List MemPlace} {b : Nat} (h : tyB P 9 tid t = true) (hc : cellP P tid = true) (h1 : t.size = 1) (hv : Value.okWide P w .any b tid v) (hd : DataW.Trod enc P w base spare held tid v d p) : ∃ x : t.den, t.wf x ∧ ∀ a, (t.cells false x)[0]? = some a → RelV w (Gh.none w.heap.size) a v := by
  have hd : ∃ n, DataW.trod enc P w base spare held n tid [v] = some (d, p) := by
    unfold cellP at hc
    split at hc
    · rename_i hu
      obtain ⟨m, rfl⟩ := okWide_int hu hv
      exact hd
    · rename_i hu
      obtain ⟨m, rfl⟩ := okWide_bool hu hv
      exact hd
    · rename_i hu
      obtain ⟨m, rfl⟩ := okWide_string hu hv
      exact hd
    · rename_i hu
      obtain ⟨a, n, c, rfl⟩ := okWide_slice hu hv
      exact hd
    · cases hc
  obtain ⟨n, hd⟩ := hd
  obtain ⟨x, x1, x2, x3⟩ := reads_ty 9 tid t n [v] _ h (by rw [h1]; rfl) hd
  exact ⟨x, x1, fun a ha => .dat (x3 0 a v ha rfl)⟩
theorem arg_ty {tid : TypeId} {v : Value} {d : DataW H} {p : List MemPlace} {b : Nat} : ∀ {a : Ty}, argB P tid a = true → Value.okWide P w .any b tid v → DataW.Trod enc P w base spare held tid v d p → ∃ x : a.den, a.wf x ∧ RelV w (Gh.none w.heap.size) (a.av false x) v
  | .agg t, h, hv, hd => by
    rw [argB, Bool.and_eq_true] at h
    obtain ⟨x, h1, h2⟩ := arg_agg h.1 h.2 hv hd
    exact ⟨x, h1, by rw [Ty.av]; exact h2⟩
  | .int k, h, hv, hd => by
    rw [argB, Bool.and_eq_true] at h
    obtain ⟨x, h1, h2⟩ := arg_cell h.1 h.2 rfl hv hd
    exact ⟨x, h1, h2 _ rfl⟩
  | .bool, h, hv, hd => by
    rw [argB, Bool.and_eq_true] at h
    obtain ⟨x, h1, h2⟩ := arg_cell h.1 h.2 rfl hv hd
    exact ⟨x, h1, h2 _ rfl⟩
  | .str, h, hv, hd => by
    rw [argB, Bool.and_eq_true] at h
    obtain ⟨x, h1, h2⟩ := arg_cell h.1 h.2 rfl hv hd
    exact ⟨x, h1, h2 _ rfl⟩
  | .list t, h, hv, hd => by
    rw [argB, Bool.and_eq_true] at h
    obtain ⟨x, h1, h2⟩ := arg_cell h.1 h.2 rfl hv hd
    exact ⟨x, h1, h2 _ rfl⟩
  | .unit, h, _, _ => by cases h
  | .pair _ _, h, _, _ => by cases h
  | .ptr _, h, _, _ => by cases h
/-- values one by one -/
inductive RelsV (w : World) (G : Gh) : List AV → List Value → Prop
  | nil : RelsV w G [] []
  | cons {a : AV} {v : Value} {l : List AV} {m : List Value} (h : RelV w G a v) (k : RelsV w G l m) : RelsV w G (a :: l) (v :: m)
theorem RelsV.args {G : Gh} {l : List AV} {m : List Value} (h : RelsV w G l m) : ArgsV w G l m.toArray := by
  induction h with
  | nil => exact ⟨rfl, fun i a v ha hv => by simp at ha⟩
  | cons h k ih =>
    refine ⟨by have := ih.size; simp at this ⊢; exact this, fun i a v ha hv => ?_⟩
    cases i with
    | zero => simp at ha hv; subst ha; subst hv; exact h
    | succ i => exact ih.rel i a v (by simpa using ha) (by simpa using hv)
theorem args_ty {b : Nat} : ∀ {ts : List TypeId} {σ : Ty} {vs : List Value} {ds : List (DataW H)} {ps : List MemPlace}, argsB P ts σ = true → (∀ (j : Nat) t v, ts[j]? = some t → vs[j]? = some v → Value.okWide P w .any b t v) → DataW.TrodAll enc P w base spare held ts vs ds ps → ∃ x : σ.den, σ.wf x ∧ RelsV w (Gh.none w.heap.size) (σ.avs false x) vs
  | [], σ, vs, ds, ps, h, _, hA => by
    obtain ⟨rfl, rfl, rfl⟩ := trodAll_nil hA
    have e := unB_ok h
    subst e
    exact ⟨(), trivial, .nil⟩
  | tid :: l, σ, vs, ds, ps, h, hv, hA => by
    obtain ⟨v, vs, d, ds, p, q, rfl, rfl, rfl, h0, r0⟩ := trodAll_cons hA
    obtain ⟨a, c, rfl, h'⟩ := prB_ok h
    clear h
    have h := h'
    clear h'
    rw [Bool.and_eq_true] at h
    obtain ⟨x, x1, x2⟩ := arg_ty h.1 (hv 0 tid v rfl rfl) h0
    obtain ⟨y, y1, y2⟩ := args_ty h.2 (fun j t u ht hu => hv (j + 1) t u (by simpa using ht) (by simpa using hu)) r0
    exact ⟨(x, y), ⟨x1, y1⟩, by rw [Ty.avs]; exact .cons x2 y2⟩
end
/-- a law whose residual program answers true at all data -/
theorem law_any {H : Type} {enc : TypeId × Value → H} {F : Nat} {ts : List TypeId} {σ : Ty} {f : Nat → σ.den → Option (Bool × Unit)} {nm : Nat} (hc : CtrOk Try.prog F ⟨σ, .pair .bool .unit, f, nm⟩) (hB : argsB Try.prog ts σ = true) (hp : ∀ x : σ.den, σ.wf x → f FU x = some (true, ())) {W : World} {b : Nat} {args : List Value} {ds : List (DataW H)} {ps : List MemPlace}
    (hv : ∀ (j : Nat) t v, ts[j]? = some t → args[j]? = some v → Value.okWide Try.prog W .any b t v) (hA : DataW.TrodAll enc Try.prog W 0 (fun _ => true) true ts args ds ps) :
    Calls Try.prog F args.toArray W fun e W' => e = .returned (.bool true) ∧ Below W.heap.size W W' := by
  obtain ⟨x, hx, hr⟩ := args_ty hB hv hA
  exact AF.yes (hc FU x (true, ()) (hp x hx)) hr.args
theorem fu_le : 18446744073709551616 ≤ FU := Nat.le_refl _
theorem wf_u8' {x : Int} (h : (Lit.int .u8 x).wf = true) : 0 ≤ x ∧ x ≤ 255 := by
  simpa [Lit.wf, IntKind.min, IntKind.max, IntKind.signed, IntKind.bits] using h
theorem wf_i64 {x : Int} (h : (Lit.int .i64 x).wf = true) : -9223372036854775808 ≤ x ∧ x ≤ 9223372036854775807 := wf_bd h
end Go.Proofs.Ytnbmldnahacnlaa
/- BitmapGrowth: for every input this law returns true and leaves its arguments as they were. -/
namespace Go.Proofs.Ytnbmldnahacnlaa
open Go.ChangeShapes Go.WideShapes Go.ChangeAt Go.RowKit

set_option maxRecDepth 100000 in
theorem bitmapGrowth_lifted (os : Os) (started : os.Started) (H : Type) (enc : TypeId × Value → H) :
    ReturnsInHanded {} Try.checked os 6 .any (Rows.bitmapGrowthSpec.pre6 enc Try.prog Try.f6 Rows.bitmapGrowthRow.domain false) (Rows.bitmapGrowthSpec.post enc Try.prog Try.f6 false true false false) := by
  refine law_lifted started (by kernel_rfl) Try.func6
    (ChangeSpec.witness6 (enc := enc) (C := Try.checked) false ⟨#[], #[.agg #[.int .i64 0, .int .i64 0, .slice none 0 0], .int .i64 0, .int .i64 0], []⟩ 8 (by kernel_rfl) (by kernel_rfl) (by kernel_rfl) (by kernel_rfl)) rfl rfl (by kernel_rfl)
    (fun ds h => by rw [Try.params6] at h; match ds, h with | [_, _, _], _ => rfl) ?_
  intro W base args ds ps hval hA hsz hlt
  rw [Try.params6] at hA hval
  exact law_any law_BitmapGrowth_ok (by kernel_rfl) (fun x hx => growth_r fu_le (fun d hd => wf_u8' (hx.1.2.2.2 d hd)) bitmapWorks_true) (fun j t v ht hv => hval j t v (by simpa using ht) hv) hA

theorem bitmapGrowth_holds : Rows.BitmapGrowthSaid :=
  OpenClaim.holds_of_wide 6 Try.f6 rfl rfl rfl rfl rfl rfl rfl ⟨rfl, rfl, rfl, rfl, rfl⟩ rfl rfl rfl rfl rfl (by kernel_rfl) Try.func6 (by kernel_rfl)
    (of_decide_eq_true (by kernel_rfl)) (by unfold Func.isWrapper; first | (rw [if_pos (by decide +kernel)]; kernel_rfl) | (rw [if_neg (by decide +kernel)]; exact ⟨rfl, rfl⟩))
    (fun os started H enc _ => bitmapGrowth_lifted os started H enc)
end Go.Proofs.Ytnbmldnahacnlaa
