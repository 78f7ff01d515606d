/- Symbolic walks: rows written, rows grown; rows that are lists of encoded elements. No program in sight. -/
import Derived.Test.YtnbmldnahacnlaaSx9
import Derived.Maps.AppendAt
namespace Go.Proofs.Ytnbmldnahacnlaa
open Go Go.RowKit

/-- append, with what is known of the block that holds the result -/
theorem run_append_v {P : Program} (w : World) (base : Nat) (t ty e : TypeId) (i : TypeInfo) (z : Value) (size bytes : Nat) (ht : P.underlying t = some (.slice e)) (hi : P.info? e = some i) (hz : i.zero = some z)
    (hsize : i.size = size) (hby : i.bytes = bytes) (hzs : z.cells.size = size) (v : Value) (n : Nat) (xs : List Value) (hown : w.ownsRow base e size v n xs)
    (A : Option Addr) (m c : Nat) (news : List Value) (hl : news.length = m * size) (hA : A = none → m = 0) (hnews : ∀ (j : Nat) (u : Value), news[j]? = some u → ∃ b o, A = some ⟨b, o, none⟩ ∧ w.cell? ⟨b, o + j, none⟩ = some u) (h1 : ∀ u ∈ news, u.oneCell' = true)
    (h63 : n + m ≤ maxLen) (hbytes : (n + m) * bytes ≤ 140737488355328) (hbase : base ≤ w.heap.size) (hAs : m ≠ 0 → ∀ a, A = some a → a.spot = none) :
    ∃ v' w', (Builtin.append_ #[t, t] ty #[v, .slice A m c]).run P w = .ok v' w' ∧ w'.ownsRow base e size v' (n + m) (xs ++ news) ∧ w.grownBy w' v.ownBlock ∧ (∀ g, ownBlk v' = some g → ownBlk v = some g ∨ w.heap.size ≤ g) ∧ (m = 0 → v' = v) := by
  subst hsize
  subst hby
  have hsmall : n + m ≤ 9223372036854775807 := by simp only [maxLen] at h63; omega
  have hlen : (xs ++ news).length = (n + m) * i.size := by rw [List.length_append, hown.1, hl, Nat.add_mul]
  have grown : ∀ (old : Nat), old < n + m → ∀ (row : Option Nat),
      (w.drew.alloc (.cells (xs.toArray ++ news.toArray ++ Builtin.zeroCells z.cells (grownCap w (n + m) old e - (n + m))) e)).ownsRow base e i.size
        (.slice (some ⟨w.heap.size, 0, none⟩) (n + m) (grownCap w (n + m) old e)) (n + m) (xs ++ news) ∧
      w.grownBy (w.drew.alloc (.cells (xs.toArray ++ news.toArray ++ Builtin.zeroCells z.cells (grownCap w (n + m) old e - (n + m))) e)) row := by
    intro old ho row
    have hge := grownCap_ge w (n + m) old e
    have hcm : grownCap w (n + m) old e ≤ maxLen := grownCap_le_maxLen w (n + m) old e h63
    refine ⟨⟨hlen, .inr ⟨w.heap.size, _, _, rfl, hbase, heap_alloc_new w.drew _, hge, hcm, ?_, ?_⟩⟩, ⟨rfl, rfl, rfl, by simp, fun k hk _ => Below.heap_alloc w.drew _ k hk⟩⟩
    · simp only [Array.size_append, List.size_toArray, size_zeroCells, hzs, hown.1, hl, ← Nat.add_mul]
      congr 1
      omega
    · simp only [Array.toList_append, List.append_assoc]
      rw [← List.append_assoc, ← hlen]
      exact List.take_left
  by_cases hm : m = 0
  · subst hm
    have hn : news = [] := List.eq_nil_of_length_eq_zero (by simpa using hl)
    subst hn
    refine ⟨v, w, ?_, by simpa using hown, ⟨rfl, rfl, rfl, Nat.le_refl _, fun _ _ _ => rfl⟩, fun g hg => .inl hg, fun _ => rfl⟩
    have hfc : ∀ (A : Option Addr), (Builtin.firstCells i.size 0 (.slice A 0 c)).run P w = .ok #[] w := by
      intro A
      cases A <;> simp [Builtin.firstCells, loadCells, loadCellsFrom]
    rcases hown.2 with ⟨rfl, rfl⟩ | ⟨g, cap, cur, rfl, _, _, hnc, _⟩
    · simp [Builtin.append_, run_underlying ht, sizeOf, typeInfo, hi, Builtin.lenOf, hfc]
    · simp [Builtin.append_, run_underlying ht, sizeOf, typeInfo, hi, Builtin.lenOf, hfc, hnc, storeCells]
  obtain ⟨a, rfl⟩ : ∃ a, A = some a := by
    cases A with
    | none => exact absurd (hA rfl) hm
    | some a => exact ⟨a, rfl⟩
  obtain ⟨b, o, sp⟩ := a
  have hsp : sp = none := hAs hm _ rfl
  subst hsp
  have hnews' : ∀ j u, news[j]? = some u → w.cell? ((⟨b, o, none⟩ : Addr).add j) = some u := by
    intro j u hu
    obtain ⟨b', o', e1, e2⟩ := hnews j u hu
    injection e1 with e1
    injection e1 with e1 e3 _
    subst e1; subst e3
    rw [addr_add]; exact e2
  rcases hown.2 with ⟨rfl, rfl⟩ | ⟨g, cap, cur, rfl, hbg, hg, hnc, hcm, hcs, htake⟩
  · have hx : xs = [] := List.eq_nil_of_length_eq_zero (by simpa using hown.1)
    subst hx
    have hr := run_append_nil (P := P) w t ty e i z ht hi hz ⟨b, o, none⟩ m c news hl hnews' (by omega) (by omega) (by have hb := hbytes; simp only [Nat.zero_add] at hb; omega)
    have hgr := grown 0 (by omega) (Value.ownBlock (.slice none 0 0))
    simp only [Nat.zero_add, List.nil_append, Array.empty_append] at hgr ⊢
    exact ⟨_, _, hr, hgr.1, hgr.2, fun g hg => (by simp [ownBlk] at hg; right; omega), fun h => absurd h hm⟩
  · by_cases hroom : n + m ≤ cap
    · have hfit : n * i.size + news.length ≤ cur.size := by rw [hl, hcs, ← Nat.add_mul]; exact Nat.mul_le_mul_right _ hroom
      have hr := run_append_room (P := P) w t ty e i ht hi g n cap cur hg ⟨b, o, none⟩ m c news hl hnews' h1 hroom hfit
      refine ⟨_, _, hr, ⟨hlen, .inr ⟨g, cap, _, rfl, hbg, setRow_heap w g cur _ e _ hg, hroom, hcm, ?_, ?_⟩⟩, ⟨rfl, rfl, rfl, by simp, fun k _ hk => setRow_other w g k _ (fun e => hk (by simp [Value.ownBlock, e]))⟩, fun g' hg' => .inl hg', fun h => absurd h hm⟩
      · simp only [List.size_toArray, List.length_append, List.length_take, List.length_drop, Array.length_toList]
        omega
      · rw [htake, ← hlen]
        exact List.take_left
    · have holds : ∀ j u, xs[j]? = some u → w.cell? ((⟨g, 0, none⟩ : Addr).add j) = some u := hown.cells (g := g) rfl
      have hr := run_append_grow (P := P) w t ty e i z ht hi hz ⟨g, 0, none⟩ n cap xs hown.1 holds ⟨b, o, none⟩ m c news hl hnews' (by omega) (by omega) (growslice_fits (by omega) hbytes)
      have hgr := grown cap (by omega) (Value.ownBlock (.slice (some ⟨g, 0, none⟩) n cap))
      exact ⟨_, _, hr, hgr.1, hgr.2, fun g' hg' => (by simp [ownBlk] at hg'; right; omega), fun h => absurd h hm⟩

/-- what is appended -/
inductive SrcA (hp : List (Nat × AB)) (sz : Nat) : AV → List (List AV) → Prop
  | ro (fr : Bool) (rows : List (List AV)) (h : ∀ row ∈ rows, row.length = sz ∧ allOne row = true) : SrcA hp sz (.ro fr sz rows) rows
  | osl (id n : Nat) (rows : List (List AV)) (e : TypeId) (h : look .dead hp id = .row sz rows e) (hn : n = rows.length) : SrcA hp sz (.osl id n) rows
  | nils : SrcA hp sz .nils []
section
variable {P : Program} {n : Nat} {st : ASt}
theorem SrcA.real {K : Kn} {a : Act} {w : World} {G : Gh} (r : RelG K n st a w G) {sz : Nat} (h0 : 0 < sz) {x : AV} {rows : List (List AV)} (h : SrcA st.heap sz x rows) {v : Value} (hv : RelV w G x v) :
    ∃ A c news, v = .slice A rows.length c ∧ RowsV w G sz rows news ∧ (A = none → rows.length = 0) ∧ (rows.length ≠ 0 → ∀ a, A = some a → a.spot = none) ∧ (∀ (j : Nat) (u : Value), news[j]? = some u → ∃ b o, A = some ⟨b, o, none⟩ ∧ w.cell? ⟨b, o + j, none⟩ = some u) := by
  cases h with
  | nils =>
    have := hv.nils'
    subst this
    exact ⟨none, 0, [], rfl, RowsV.nil _ _ _, fun _ => rfl, fun _ a h => (by cases h), fun j u h => (by simp at h)⟩
  | ro fr _ h =>
    cases hv with
    | dat hd =>
      cases hd with
      | ro _ _ _ A c f hc hm q0 h1 h2 =>
        have hsp : ∀ a, A = some a → 0 < rows.length → a.spot = none := by
          intro a ha hl
          have g1 : rows[0]? = some rows[0] := List.getElem?_eq_getElem hl
          obtain ⟨hrl, _⟩ := h _ (List.mem_of_getElem? g1)
          have g2 : rows[0][0]? = some rows[0][0] := List.getElem?_eq_getElem (by omega)
          obtain ⟨b, o, e, _⟩ := h1 0 _ 0 _ g1 g2
          rw [e] at ha
          injection ha with ha
          rw [← ha]
        have hrl : ∀ (i : Nat) (row : List AV), rows[i]? = some row → row.length = sz := fun i row hi => (h row (List.mem_of_getElem? hi)).1
        have hq : ∀ t, t < rows.length * sz → ∃ row a, rows[t / sz]? = some row ∧ row[t % sz]? = some a := by
          intro t ht
          have h3 : t / sz < rows.length := (Nat.div_lt_iff_lt_mul h0).2 ht
          have g1 : rows[t / sz]? = some rows[t / sz] := List.getElem?_eq_getElem h3
          have h4 : t % sz < (rows[t / sz]).length := by rw [hrl _ _ g1]; exact Nat.mod_lt _ h0
          exact ⟨_, _, g1, List.getElem?_eq_getElem h4⟩
        have hdm : ∀ t : Nat, t / sz * sz + t % sz = t := fun t => by rw [Nat.mul_comm]; exact Nat.div_add_mod t sz
        refine ⟨A, c, (List.range (rows.length * sz)).map (fun t => f (t / sz) (t % sz)), rfl, ⟨by simp, fun v hv => ?_, fun i row hi => ⟨hrl i row hi, fun j a hj => ?_⟩⟩, fun hA => ?_, fun hne a ha => hsp a ha (by omega), fun j u hu => ?_⟩
        · obtain ⟨t, ht, rfl⟩ := List.mem_map.1 hv
          obtain ⟨row, a, g1, g2⟩ := hq t (List.mem_range.1 ht)
          exact (RelV.dat (G := G) (h2 _ row _ a g1 g2)).one (allOne_at (h row (List.mem_of_getElem? g1)).2 g2)
        · have hjs : j < sz := by rw [← hrl i row hi]; exact (List.getElem?_eq_some_iff.1 hj).1
          have hil : i < rows.length := (List.getElem?_eq_some_iff.1 hi).1
          have hlt : i * sz + j < rows.length * sz := flat_lt hil hjs
          refine ⟨f i j, ?_, .dat (h2 i row j a hi hj)⟩
          rw [List.getElem?_map, List.getElem?_range hlt]
          have e1 : (i * sz + j) / sz = i := by rw [Nat.mul_comm, Nat.mul_add_div h0, Nat.div_eq_of_lt hjs, Nat.add_zero]
          have e2 : (i * sz + j) % sz = j := by rw [Nat.mul_comm, Nat.mul_add_mod]; exact Nat.mod_eq_of_lt hjs
          show some (f ((i * sz + j) / sz) ((i * sz + j) % sz)) = _
          rw [e1, e2]
        · rcases Nat.eq_zero_or_pos rows.length with e | hpos
          · exact e
          · exact absurd hA (q0 0 hpos)
        · have hjl : j < rows.length * sz := by have := (List.getElem?_eq_some_iff.1 hu).1; simpa using this
          rw [List.getElem?_map, List.getElem?_range hjl] at hu
          injection hu with hu
          obtain ⟨row, a, g1, g2⟩ := hq j hjl
          obtain ⟨b, o, e1, _, _, e4⟩ := h1 _ row _ a g1 g2
          refine ⟨b, o, e1, ?_⟩
          rw [Nat.add_assoc, hdm j] at e4
          rw [e4, ← hu]
  | osl id _ _ e h hn =>
    have hk := r.hr.blk id
    rw [h] at hk
    obtain ⟨q1, q2, q3, q4, flat, q5, q6, q7⟩ := hk
    have ev : v = G.ρ id := by
      cases hv with
      | dat h => cases h
      | osl _ _ _ _ _ _ _ hh => exact hh (by rw [q4, hn])
    subst ev
    have hRV : RowsV w G sz rows flat := ⟨q5.1, q6, q7⟩
    rcases q5.2 with ⟨e1, e2⟩ | ⟨gg, cap, cur, e1, _, hh, hcap, hcm, _, _⟩
    · have hf : flat = [] := List.eq_nil_of_length_eq_zero (by rw [q5.1, e2]; simp)
      subst hf
      rw [e1]
      exact ⟨none, 0, [], by rw [e2], hRV, fun _ => e2, fun _ a h => (by cases h), fun j u h => (by simp at h)⟩
    · have q5' := q5
      rw [e1] at q5' ⊢
      refine ⟨some ⟨gg, 0, none⟩, cap, flat, rfl, hRV, fun h => (by cases h), fun _ a h => (by injection h with h; rw [← h]), fun j u hu => ⟨gg, 0, rfl, ?_⟩⟩
      rw [Nat.zero_add, q5'.cellAt j (by have := (List.getElem?_eq_some_iff.1 hu).1; rw [q5.1] at this; exact this)]
      exact hu
variable {Q : Exit → ASt → Prop} {d : Option Nat} {ty : TypeId} {ps : String} {af : Array Edge} {g : Option (Nat × Bool)} {x y : Operand} {t t' : TypeId}
theorem grown_below {w w' : World} {B : Nat} {row : Option Nat} (h : w.grownBy w' row) (hB : B ≤ w.heap.size) (hr : ∀ g, row = some g → B ≤ g) : Below B w w' :=
  ⟨h.os, h.tape, h.output, h.size, fun i hi => h.block i (by omega) (by intro e; have := hr i e.symm; omega)⟩
theorem ownBlock_eq {w : World} {base : Nat} {e : TypeId} {s : Nat} {v : Value} {n : Nat} {xs : List Value} (h : w.ownsRow base e s v n xs) : v.ownBlock = ownBlk v := by
  rcases h.2 with ⟨rfl, _⟩ | ⟨g, cap, cur, rfl, _⟩ <;> rfl
theorem op_append {e : TypeId} {z : Value} {sz b id m : Nat} {e' : TypeId} {rows new : List (List AV)} {xv : AV} (hx : st.ev x = .osl id m) (hb : look .dead st.heap id = .row sz rows e') (he : e' = e) (hm : m = rows.length) (hy : st.ev y = xv) (hs : SrcA st.heap sz xv new)
    (hT : P.underlying t = some (.slice e)) (hI : tyI P e = some (some z, sz, b)) (hz : z.cells.size = sz) (h63 : (rows.length + new.length) * (b + 1) ≤ 140737488355328) (hd : dok d n = true) :
    OpV P n ⟨d, .call { callee := .builtin .append, args := #[x, y], argTypes := #[t, t] }, ty, ps, af, g⟩ st ((st.hset id (.row sz (rows ++ new) e)).put d (.osl id (rows.length + new.length))) := .mk fun K a w ⟨G, r⟩ => by
  subst he
  have e1 := r.ev x
  rw [hx] at e1
  have e2 := r.ev y
  rw [hy] at e2
  have hk := r.hr.blk id
  rw [hb] at hk
  obtain ⟨q1, q2, q3, q4, flat, q5, q6, q7⟩ := hk
  have ev : a.eval x = G.ρ id := by
    cases e1 with
    | dat h => cases h
    | osl _ _ _ _ _ _ _ hh => exact hh (by rw [q4, hm])
  obtain ⟨A, c, news, f1, f2, f3, f4, f5⟩ := hs.real r q2 e2
  obtain ⟨i, hi, hz0, hz1, hz2⟩ := tyI_info hI
  have hmul : rows.length + new.length ≤ (rows.length + new.length) * (b + 1) := Nat.le_mul_of_pos_right _ (by omega)
  have hmul2 : (rows.length + new.length) * b ≤ (rows.length + new.length) * (b + 1) := Nat.mul_le_mul_left _ (by omega)
  obtain ⟨v', w', p1, p2, p3, p4, p5⟩ := run_append_v (P := P) w K.w0.heap.size t ty e' i z sz b hT hi hz0 hz1 hz2 hz (G.ρ id) rows.length flat q5 A new.length c news f2.len f3 f5 f2.one (by simp only [maxLen]; omega) (by omega) r.hr.below.size f4
  have hob := ownBlock_eq q5
  rw [hob] at p3
  have hoo : ∀ g, ownBlk (G.ρ id) = some g → G.own g := fun g hg => r.hr.ownhas id g q1 hg
  let G' : Gh := ⟨fun j => if j = id then v' else G.ρ j, fun b => G.own b ∨ ownBlk v' = some b, fun j => if j = id then rows.length + new.length else G.ln j, G.sz, G.nx, G.bs⟩
  have hρ : G'.ρ id = v' := if_pos rfl
  have hln : G'.ln id = rows.length + new.length := if_pos rfl
  have hsl : ∃ A c, v' = .slice A (rows.length + new.length) c := by
    rcases p2.2 with ⟨h1, h2⟩ | ⟨gg, cap, cur, h1, _⟩
    · rw [h1, h2]; exact ⟨_, _, rfl⟩
    · rw [h1]; exact ⟨_, _, rfl⟩
  have hext : Ext w G w' G' := by
    refine ⟨p3.size, fun b hb hl => p3.block b hl (fun e => hb (hoo b e.symm)), fun b h => .inl h, fun b h => ?_, Nat.le_refl _, rfl, fun j hj => ?_⟩
    · rcases h with h | h
      · exact .inl h
      · exact (p4 b h).imp (hoo b) (fun h => h)
    · by_cases e : j = id
      · subst e
        refine ⟨by rw [hln, q4]; omega, rfl, fun h => ?_, fun h => by omega⟩
        rw [hρ]
        exact p5 (by rw [hln, q4] at h; omega)
      · have h1 : G'.ln j = G.ln j := if_neg e
        have h2 : G'.ρ j = G.ρ j := if_neg e
        exact ⟨by omega, rfl, fun _ => h2, fun _ => h1⟩
  have hRV : RowsV w G sz rows flat := ⟨q5.1, q6, q7⟩
  have hRV2 := (hRV.append f2).ext hext
  have hlr : (rows ++ new).length = rows.length + new.length := by simp
  have hHR : HR K.w0 w' G' ((id, .row sz (rows ++ new) e') :: st.heap) := by
    refine r.hr.update hext (grown_below p3 r.hr.below.size (fun g hg => (r.hr.ownlt g (hoo g hg)).1)) id _ (fun j hne hj => ⟨if_neg hne, if_neg hne, fun g hg => p3.block g (r.hr.ownlt g (r.hr.ownhas j g hj hg)).2 (fun e => ?_)⟩) (fun j h _ => h) (fun b hb => ?_)
      ⟨q1, q2, q3, by rw [hln, hlr], flat ++ news, by rw [hρ, hlr]; exact p2, hRV2.one, hRV2.rel⟩ (fun j g hj hne hg he => ?_) (fun g _ hg => ?_)
    · exact r.hr.dist j id g hj q1 hne hg e.symm
    · rcases hb with hb | hb
      · have := r.hr.ownlt b hb
        have := p3.size
        omega
      · rcases p4 b hb with h | h
        · have := r.hr.ownlt b (hoo b h)
          have := p3.size
          omega
        · have h2 : b < w'.heap.size := by
            rcases p2.2 with ⟨h1, _⟩ | ⟨gg, cap, cur, h1, _, h3, _⟩
            · rw [h1] at hb; simp [ownBlk] at hb
            · rw [h1] at hb
              simp [ownBlk] at hb
              subst hb
              exact (Array.getElem?_eq_some_iff.1 h3).1
          have := r.hr.below.size
          omega
    · rw [hρ] at hg
      rcases p4 g hg with h | h
      · exact r.hr.dist j id g hj q1 hne he h
      · have := (r.hr.ownlt g (r.hr.ownhas j g hj he)).2
        omega
    · rw [hρ] at hg
      exact .inr hg
  refine ⟨v', w', .inl ?_, G', (r.turn st.nx (show G'.nx = st.nx from r.nx) hHR hext).put (dok_lt hd) (RelV.osl (w := w') (G := G') id _ v' q1 (by show 0 < G.sz id; omega) (by rw [hln]; exact Nat.le_refl _) hsl (fun _ => hρ.symm))⟩
  simp [execOp, resolve, invoke, builtin, ev, f1, p1]
/-- append onto nil -/
theorem op_append_nil {e : TypeId} {z : Value} {sz b : Nat} {new : List (List AV)} {xv : AV} (hx : st.ev x = .nils) (hy : st.ev y = xv) (hs : SrcA st.heap sz xv new)
    (hT : P.underlying t = some (.slice e)) (hI : tyI P e = some (some z, sz, b)) (h0 : 0 < sz) (hz : z.cells.size = sz) (h63 : new.length * (b + 1) ≤ 140737488355328) (hd : dok d n = true) :
    OpV P n ⟨d, .call { callee := .builtin .append, args := #[x, y], argTypes := #[t, t] }, ty, ps, af, g⟩ st ((st.hnew (.row sz new e)).put d (.osl st.nx new.length)) := .mk fun K a w ⟨G, r⟩ => by
  have e1 := r.ev x
  rw [hx] at e1
  have e1 := e1.nils'
  have e2 := r.ev y
  rw [hy] at e2
  obtain ⟨A, c, news, f1, f2, f3, f4, f5⟩ := hs.real r h0 e2
  obtain ⟨i, hi, hz0, hz1, hz2⟩ := tyI_info hI
  have hmul : new.length ≤ new.length * (b + 1) := Nat.le_mul_of_pos_right _ (by omega)
  have hmul2 : new.length * b ≤ new.length * (b + 1) := Nat.mul_le_mul_left _ (by omega)
  obtain ⟨v', w', p1, p2, p3, p4, p5⟩ := run_append_v (P := P) w w.heap.size t ty e i z sz b hT hi hz0 hz1 hz2 hz (.slice none 0 0) 0 [] (World.ownsRow_nil w _ _ _) A new.length c news f2.len f3 f5 f2.one (by simp only [maxLen]; omega) (by rw [Nat.zero_add]; omega) (Nat.le_refl _) f4
  rw [Nat.zero_add, List.nil_append] at p2
  obtain ⟨r2, hv⟩ := r.newRow (grown_below p3 (Nat.le_refl _) (fun g hg => by simp [Value.ownBlock] at hg)) (e := e) h0 p2 f2
  refine ⟨v', w', .inl ?_, _, r2.put (dok_lt hd) hv⟩
  simp [execOp, resolve, invoke, builtin, e1, f1, p1]
end
end Go.Proofs.Ytnbmldnahacnlaa
