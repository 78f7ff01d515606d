/- Arguments opened, as abstract values. -/
import Derived.Test.YtnbmldnahacnlaaSxI
import Derived.Test.YtnbmldnahacnlaaOpenX
set_option maxRecDepth 100000
namespace Go.Proofs.Ytnbmldnahacnlaa
open Go Go.ChangeShapes Go.WideShapes Go.ChangeAt Go.RowKit Go.Deep

section
variable {H : Type} {enc : TypeId × Value → H} {P : Program} {w : World} {base : Nat} {spare : Nat → Bool} {held : Bool}
/-- data of the caller's -/
abbrev RelC (w : World) : AV → Value → Prop := RelD w (fun _ => False) w.heap.size
/-- one element's cells, read as enc p -/
def Reads {α : Type} (w : World) (sz : Nat) (ec : α → List AV) (Q : α → Prop) (cs : List Value) : Prop :=
  ∃ p, Q p ∧ (ec p).length = sz ∧ ∀ (j : Nat) (a : AV) (u : Value), (ec p)[j]? = some a → cs[j]? = some u → RelC w a u
theorem ro_slice {α : Type} (ec : α → List AV) (Q : α → Prop) {t e : TypeId} {sz fuel : Nat} {v : Value} {x : DataW H × List MemPlace} (ht : P.underlying t = some (.slice e)) (hz : P.cellsOf e = sz) (hc : 0 < sz)
    (hel : ∀ (fuel : Nat) (cs : List Value) (x : DataW H × List MemPlace), cs.length = sz → DataW.trod enc P w base spare held fuel e cs = some x → Reads w sz ec Q cs) (h : DataW.trod enc P w base spare held fuel t [v] = some x) :
    ∃ xs : List α, (∀ p ∈ xs, Q p) ∧ RelC w (.ro false sz (xs.map ec)) v := by
  subst hz
  obtain ⟨A, n, c, rfl, hn, hm, hi⟩ := rd_slice ht hc h
  obtain ⟨xs, hl, hq⟩ := choose_list (Q := fun i (p : α) => Q p ∧ ∃ (b o : Nat) (cs : List Value), A = some ⟨b, o, none⟩ ∧ cs.length = P.cellsOf e ∧ (∀ (j : Nat) (u : Value), cs[j]? = some u → w.cell? ⟨b, o + i * P.cellsOf e + j, none⟩ = some u) ∧ (ec p).length = P.cellsOf e ∧ ∀ (j : Nat) (a : AV) (u : Value), (ec p)[j]? = some a → cs[j]? = some u → RelC w a u) (n := n) (by
    intro i hil
    obtain ⟨b, o, cs, n', x', hA, hlen, hat, htr⟩ := hi i hil
    obtain ⟨p, h1, h2, h3⟩ := hel n' cs x' hlen htr
    exact ⟨p, h1, b, o, cs, hA, hlen, hat, h2, h3⟩)
  subst hl
  refine ⟨xs, fun p hp => ?_, ?_⟩
  · obtain ⟨i, hi⟩ := List.mem_iff_getElem?.1 hp
    exact (hq i p hi).1
  have key : ∀ (i : Nat) (row : List AV) (j : Nat) (a : AV), (xs.map ec)[i]? = some row → row[j]? = some a → ∃ b o u, A = some ⟨b, o, none⟩ ∧ w.cell? ⟨b, o + i * P.cellsOf e + j, none⟩ = some u ∧ RelC w a u := by
    intro i row j a hr ha
    rw [List.getElem?_map] at hr
    obtain ⟨p, hp, rfl⟩ := Option.map_eq_some_iff.1 hr
    obtain ⟨_, b, o, cs, hA, hlen, hat, hel, hrel⟩ := hq i p hp
    have hj : j < cs.length := by rw [hlen, ← hel]; exact (List.getElem?_eq_some_iff.1 ha).1
    have hu : cs[j]? = some cs[j] := List.getElem?_eq_getElem hj
    exact ⟨b, o, cs[j], hA, hat j _ hu, hrel j a _ ha hu⟩
  have hcon := RelD.ro (w := w) (own := fun _ => False) (bs := w.heap.size) false (P.cellsOf e) (xs.map ec) A c (fun i j => match A with
    | some ⟨b, o, _⟩ => (w.cell? ⟨b, o + i * P.cellsOf e + j, none⟩).getD undef
    | none => undef) (by simpa using hn) hm (fun i hi hA => by
      have hi : i < xs.length := by simpa using hi
      obtain ⟨_, b, o, _, h1, _⟩ := hq i xs[i] (List.getElem?_eq_getElem hi)
      rw [hA] at h1; cases h1) (fun i row j a hr ha => by
      obtain ⟨b, o, u, hA, hu, _⟩ := key i row j a hr ha
      subst hA
      exact ⟨b, o, rfl, fun h => h.elim, (fun h => by cases h), by simp [hu]⟩) (fun i row j a hr ha => by
      obtain ⟨b, o, u, hA, hu, hr⟩ := key i row j a hr ha
      subst hA
      simpa [hu] using hr)
  rw [List.length_map] at hcon
  exact hcon
theorem reads_int {k : IntKind} {e : TypeId} (ht : P.underlying e = some (.int k)) (fuel : Nat) (cs : List Value) (x : DataW H × List MemPlace) (hl : cs.length = 1) (h : DataW.trod enc P w base spare held fuel e cs = some x) :
    Reads w 1 (eI k) (fun n => (Lit.int k n).wf = true) cs := by
  obtain ⟨u, rfl⟩ : ∃ u, cs = [u] := by match cs, hl with | [u], _ => exact ⟨u, rfl⟩
  obtain ⟨n, rfl, hwf⟩ := rd_int ht h
  refine ⟨n, hwf, rfl, fun j a u ha hu => ?_⟩
  match j with
  | 0 => simp [eI] at ha hu; subst ha; subst hu; exact .int _ _
  | j + 1 => simp [eI] at ha
theorem reads_bool {e : TypeId} (ht : P.underlying e = some .bool) (fuel : Nat) (cs : List Value) (x : DataW H × List MemPlace) (hl : cs.length = 1) (h : DataW.trod enc P w base spare held fuel e cs = some x) :
    Reads w 1 eB (fun _ => True) cs := by
  obtain ⟨u, rfl⟩ : ∃ u, cs = [u] := by match cs, hl with | [u], _ => exact ⟨u, rfl⟩
  obtain ⟨n, h1, _⟩ := DataW.trod_bool ht h
  simp at h1
  subst h1
  refine ⟨n, trivial, rfl, fun j a u ha hu => ?_⟩
  match j with
  | 0 => simp [eB] at ha hu; subst ha; subst hu; exact .bool _
  | j + 1 => simp [eB] at ha
/-- three numbers in a struct -/
theorem reads_three {e ti : TypeId} {fs : Array Field} (ht : P.underlying e = some (.struct fs)) (hi : P.underlying ti = some (.int .i64)) (hc : P.cellsOf ti = 1) (f0 : (fs[0]?).map (fun f => (f.type, f.offset)) = some (ti, 0)) (f1 : (fs[1]?).map (fun f => (f.type, f.offset)) = some (ti, 1)) (f2 : (fs[2]?).map (fun f => (f.type, f.offset)) = some (ti, 2))
    (fuel : Nat) (cs : List Value) (x : DataW H × List MemPlace) (hl : cs.length = 3) (h : DataW.trod enc P w base spare held fuel e cs = some x) :
    Reads w 3 eT (fun p => (Lit.int .i64 p.1).wf = true ∧ (Lit.int .i64 p.2.1).wf = true ∧ (Lit.int .i64 p.2.2).wf = true) cs := by
  obtain ⟨u0, u1, u2, rfl⟩ : ∃ u0 u1 u2, cs = [u0, u1, u2] := by match cs, hl with | [u0, u1, u2], _ => exact ⟨u0, u1, u2, rfl⟩
  obtain ⟨_, _, g0⟩ := rd_field1 (u := u0) ht h 0 f0 hc rfl
  obtain ⟨_, _, g1⟩ := rd_field1 (u := u1) ht h 1 f1 hc rfl
  obtain ⟨_, _, g2⟩ := rd_field1 (u := u2) ht h 2 f2 hc rfl
  obtain ⟨n0, rfl, w0⟩ := rd_int hi g0
  obtain ⟨n1, rfl, w1⟩ := rd_int hi g1
  obtain ⟨n2, rfl, w2⟩ := rd_int hi g2
  refine ⟨(n0, n1, n2), ⟨w0, w1, w2⟩, rfl, fun j a u ha hu => ?_⟩
  match j with
  | 0 => simp [eT] at ha hu; subst ha; subst hu; exact .int _ _
  | 1 => simp [eT] at ha hu; subst ha; subst hu; exact .int _ _
  | 2 => simp [eT] at ha hu; subst ha; subst hu; exact .int _ _
  | j + 3 => simp [eT] at ha
theorem arg_ro {α : Type} (ec : α → List AV) (Q : α → Prop) {t e : TypeId} {sz : Nat} {v : Value} {d : DataW H} {p : List MemPlace} (ht : P.underlying t = some (.slice e)) (hz : P.cellsOf e = sz) (hc : 0 < sz)
    (hel : ∀ (fuel : Nat) (cs : List Value) (x : DataW H × List MemPlace), cs.length = sz → DataW.trod enc P w 0 spare held fuel e cs = some x → Reads w sz ec Q cs) (hv : Value.okWide P w .any base t v) (h : DataW.Trod enc P w 0 spare held t v d p) :
    ∃ xs : List α, (∀ p ∈ xs, Q p) ∧ RelC w (.ro false sz (xs.map ec)) v := by
  obtain ⟨a, n, c, rfl⟩ := okWide_slice ht hv
  obtain ⟨fuel, hf⟩ := h
  exact ro_slice ec Q ht hz hc hel hf
end
theorem argsC {w : World} {xs : List AV} {vs : Array Value} (hl : vs.size = xs.length) (h : ∀ (i : Nat) (a : AV) (v : Value), xs[i]? = some a → vs[i]? = some v → RelC w a v) : ArgsV w (Gh.none w.heap.size) xs vs :=
  ⟨hl, fun i a v ha hv => .dat (h i a v ha hv)⟩
theorem argsC1 {w : World} {x : AV} {u : Value} (h0 : RelC w x u) : ArgsV w (Gh.none w.heap.size) [x] #[u] := argsC rfl fun i a v ha hv => by
  match i with
  | 0 => simp at ha hv; subst ha; subst hv; exact h0
  | i + 1 => simp at ha
theorem argsC2 {w : World} {x0 x1 : AV} {u0 u1 : Value} (h0 : RelC w x0 u0) (h1 : RelC w x1 u1) : ArgsV w (Gh.none w.heap.size) [x0, x1] #[u0, u1] := argsC rfl fun i a v ha hv => by
  match i with
  | 0 => simp at ha hv; subst ha; subst hv; exact h0
  | 1 => simp at ha hv; subst ha; subst hv; exact h1
  | i + 2 => simp at ha
theorem argsC3 {w : World} {x0 x1 x2 : AV} {u0 u1 u2 : Value} (h0 : RelC w x0 u0) (h1 : RelC w x1 u1) (h2 : RelC w x2 u2) : ArgsV w (Gh.none w.heap.size) [x0, x1, x2] #[u0, u1, u2] := argsC rfl fun i a v ha hv => by
  match i with
  | 0 => simp at ha hv; subst ha; subst hv; exact h0
  | 1 => simp at ha hv; subst ha; subst hv; exact h1
  | 2 => simp at ha hv; subst ha; subst hv; exact h2
  | i + 3 => simp at ha
theorem argsC4 {w : World} {x0 x1 x2 x3 : AV} {u0 u1 u2 u3 : Value} (h0 : RelC w x0 u0) (h1 : RelC w x1 u1) (h2 : RelC w x2 u2) (h3 : RelC w x3 u3) : ArgsV w (Gh.none w.heap.size) [x0, x1, x2, x3] #[u0, u1, u2, u3] := argsC rfl fun i a v ha hv => by
  match i with
  | 0 => simp at ha hv; subst ha; subst hv; exact h0
  | 1 => simp at ha hv; subst ha; subst hv; exact h1
  | 2 => simp at ha hv; subst ha; subst hv; exact h2
  | 3 => simp at ha hv; subst ha; subst hv; exact h3
  | i + 4 => simp at ha
/-- a law that answers true -/
theorem AF.yes {P : Program} {F : FuncId} {xs : List AV} {vs : Array Value} {w : World} (h : AF P F xs (.bool true)) (ha : ArgsV w (Gh.none w.heap.size) xs vs) : Calls P F vs w fun e w' => e = .returned (.bool true) ∧ Below w.heap.size w w' :=
  (h.out w vs ha).mono fun e w' ⟨v, he, hb, hv⟩ => ⟨by rw [he, hv.bool'], hb⟩
end Go.Proofs.Ytnbmldnahacnlaa
