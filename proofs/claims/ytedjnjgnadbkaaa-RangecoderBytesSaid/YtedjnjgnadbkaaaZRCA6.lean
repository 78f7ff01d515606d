/- RangecoderBytes: for every input this law returns true and leaves its arguments as they were. -/
import Derived.Test.YtedjnjgnadbkaaaZRCA5
import Derived.Test.YtedjnjgnadbkaaaRows
import Derived.WalkKit
import Derived.ProofKit
import Derived.SizedLaws
import Derived.BigQuiet
import Derived.Deep.QuietTactic
import Derived.Deep.Slices
import Derived.OpenShut
/- RangecoderBytes: the law's residual program answers true for every input. -/
set_option maxRecDepth 100000
set_option linter.unusedVariables false
namespace Go.Proofs.Ytedjnjgnadbkaaa
open Go Go.RowKit
theorem getD_fst (l : List (Int × Int)) (k : Nat) : (l.map Prod.fst).getD k 0 = (l.getD k (0, 0)).1 := by
  rw [List.getD_eq_getElem?_getD, List.getD_eq_getElem?_getD, List.getElem?_map]
  cases l[k]? <;> rfl
theorem getD_snd (l : List (Int × Int)) (k : Nat) : (l.map Prod.snd).getD k 0 = (l.getD k (0, 0)).2 := by
  rw [List.getD_eq_getElem?_getD, List.getD_eq_getElem?_getD, List.getElem?_map]
  cases l[k]? <;> rfl
def rcE (m : Int) (cs bs : List Int) (i : Nat) : Int := if (0 ≤ bs.getD i 0 ∧ bs.getD i 0 ≤ 1) ∧ (0 ≤ cs.getD i 0 ∧ cs.getD i 0 ≤ m - 1) then 0 else 3
theorem rcE_ok {m : Int} {cs bs : List Int} {i : Nat} (h : rcE m cs bs i = 0) : (0 ≤ cs.getD i 0 ∧ cs.getD i 0 < m) ∧ (bs.getD i 0 = 0 ∨ bs.getD i 0 = 1) := by
  unfold rcE at h
  split at h
  · omega
  · omega
def rcOut (m : Int) (cs bs : List Int) : List Int := trim (digs (rcS m cs bs bs.length).2.2.2 (rcS m cs bs bs.length).2.2.1)
abbrev RefT := Int × (Int × (List Int × (List Int × List Int)))
def refSt (s : RcT) (i : Nat) : RefT := (s.2.1, ((i : Int), (digs s.2.2.2 s.2.2.1, (s.1.map Prod.fst, s.1.map Prod.snd))))
theorem last_nat {l : List Int} (h : 0 < l.length) : ((l.length : Int) - 1).toNat = l.length - 1 := by omega
section
variable {fu : Nat} (hf : 18446744073709551616 ≤ fu)
include hf
theorem enc_trim {l : List Int} (hl : l.length ≤ 2000000) : loopF (rangecoder_Encode_l10 fu) fu l = some (trim l, (0, ())) := by
  refine (trimLoop (K := fun l => rangecoder_Encode_j11 fu l (fun _ => none) false) (by omega) (fun j d hd hz => ?_) (fun j d hd h0 hz => ?_)).trans ?_
  · unfold rangecoder_Encode_l10
    simp only [joinF_eq]
    by_cases c : 0 < d.length
    · rw [bif_pos (by omega), s_wr (by omega) (by omega), bif_and (by omega) (by omega), last_nat c, s_neg (hz c)]; rfl
    · rw [bif_neg (by omega)]; rfl
  · unfold rangecoder_Encode_l10
    simp only [joinF_eq]
    rw [bif_pos (by omega), s_wr (by omega) (by omega), bif_and (by omega) (by omega), last_nat h0, s_pos hz]
    unfold rangecoder_Encode_j11
    simp only [cond_true]
    rw [s_wr (by omega) (by omega), bif_and (by omega) (by omega), last_nat h0]; rfl
  · have : (trim l).length ≤ l.length := by
      unfold trim
      rw [List.length_reverse]
      have := (List.dropWhile_suffix (l := l.reverse) fun d : Int => d == 0).length_le
      rw [List.length_reverse] at this
      exact this
    unfold rangecoder_Encode_j11
    simp only [cond_false]
    rw [bif_pos (by omega)]
theorem ref_trim {l : List Int} (hl : l.length ≤ 2000000) : loopF (R_Coded_l8 fu) fu l = some (trim l, ()) := by
  refine trimLoop (K := fun l => some (l, ())) (by omega) (fun j d hd hz => ?_) (fun j d hd h0 hz => ?_)
  · unfold R_Coded_l8
    simp only [joinF_eq]
    by_cases c : 0 < d.length
    · rw [bif_pos (by omega), s_wr (by omega) (by omega), bif_and (by omega) (by omega), last_nat c, s_neg (hz c)]; rfl
    · rw [bif_neg (by omega)]; rfl
  · unfold R_Coded_l8
    simp only [joinF_eq]
    rw [bif_pos (by omega), s_wr (by omega) (by omega), bif_and (by omega) (by omega), last_nat h0, s_pos hz]
    unfold R_Coded_j9
    simp only [cond_true]
    rw [s_wr (by omega) (by omega), bif_and (by omega) (by omega), last_nat h0]; rfl
/-! ### Encode -/
theorem enc_last {m : Int} {n : Nat} {s : RcT} (h : RcOk m n s) (hn : n ≤ 1048576) {cs bs : List Int} (hb : bs.length = n) (j) : rangecoder_Encode_l2 fu (m, (cs, (bs, ()))) j (encSt s n) = some (trim (digs s.2.2.2 s.2.2.1), (0, ())) := by
  obtain ⟨w0, w1, l0, l1, dg, ln⟩ := h.md
  obtain ⟨cells, wide, low, out⟩ := s
  simp only at w0 w1 l0 l1 dg ln
  unfold rangecoder_Encode_l2 encSt
  simp only [cond_false, p24, p16, p8, w8m]
  rw [bif_neg (by omega), bif_pos (by omega), bif_pos (by simp only [List.length_cons, List.length_nil]; omega)]
  exact enc_trim hf (l := digs out low) (by rw [digs_length]; omega)
theorem enc_step {m : Int} {n : Nat} {s : RcT} (h : RcOk m n s) {cs bs : List Int} (hn : bs.length ≤ 1048576) (hcb : bs.length = cs.length) (hi : n < bs.length) (j) :
    rangecoder_Encode_l2 fu (m, (cs, (bs, ()))) j (encSt s n) = if rcE m cs bs n = 0 then j (encSt (rcStep (cs.getD n 0) (bs.getD n 0) s) (n + 1)) else some ([], (rcE m cs bs n, ())) := by
  have hl := h.len
  have e1 : (encSt s n).1 = n := rfl
  have e2 : (encSt s n).2.2.1.2.2.2.2.2 = false := rfl
  unfold rangecoder_Encode_l2
  simp only [e1, e2, Int.toNat_natCast, joinF_eq, cond_false]
  rw [bif_pos (by omega), bif_and (by omega) (by omega), bif_and (by omega) (by omega)]
  have key : (bif decide (bs.getD n 0 ≠ 0) then rangecoder_Encode_j4 fu (encSt s n) (bs.getD n 0) (cs.getD n 0) (rangecoder_Encode_j3 fu (encSt s n) j) (decide (bs.getD n 0 ≠ 1)) else rangecoder_Encode_j4 fu (encSt s n) (bs.getD n 0) (cs.getD n 0) (rangecoder_Encode_j3 fu (encSt s n) j) false) = rangecoder_Encode_j4 fu (encSt s n) (bs.getD n 0) (cs.getD n 0) (rangecoder_Encode_j3 fu (encSt s n) j) (decide (¬ (bs.getD n 0 = 0 ∨ bs.getD n 0 = 1))) := by
    by_cases z : bs.getD n 0 = 0
    · rw [bif_neg (by omega), s_neg (by omega)]
    · rw [bif_pos z]
      by_cases o : bs.getD n 0 = 1
      · rw [s_neg (by omega), s_neg (by omega)]
      · rw [s_pos (by omega), s_pos (by omega)]
  rw [key]
  by_cases hb : bs.getD n 0 = 0 ∨ bs.getD n 0 = 1
  · rw [s_neg (fun g => g hb)]
    by_cases hc : 0 ≤ cs.getD n 0 ∧ cs.getD n 0 < m
    · rw [if_pos (by unfold rcE; rw [if_pos (by omega)]), enc_j4 hf h (by omega) hb hc.1 hc.2]
      unfold rangecoder_Encode_j3
      simp only
      rw [bif_neg (by omega), e1, s_wr (by omega) (by omega)]
      rfl
    · have e3 : rcE m cs bs n = 3 := by unfold rcE; rw [if_neg (by omega)]
      rw [if_neg (by omega), e3]
      unfold rangecoder_Encode_j4
      simp only [cond_false]
      have hck : __rangecoder_model__check_r fu (((encSt s n).2.1, ((encSt s n).2.2.1.2.1, (encSt s n).2.2.1.2.2.1)), (cs.getD n 0, ())) = some (3, ()) := by
        unfold __rangecoder_model__check_r __rangecoder_model__check_j1 encSt
        simp only [joinF_eq]
        by_cases k : cs.getD n 0 < 0
        · rw [bif_pos k]; rfl
        · rw [bif_neg k, s_pos (by omega)]; rfl
      rw [hck]
      simp only [bindO_some]
      rw [bif_pos (by omega)]
      unfold rangecoder_Encode_j3
      simp only
      rw [bif_pos (by omega)]
  · rw [s_pos hb]
    have e3 : rcE m cs bs n = 3 := by unfold rcE; rw [if_neg (by omega)]
    rw [if_neg (by omega), e3]
    unfold rangecoder_Encode_j4
    simp only [cond_true]
    unfold rangecoder_Encode_j3
    simp only
    rw [bif_pos (by omega)]
/-- the law's errors and the answer -/
def rcErr (m : Int) (cs bs : List Int) : Int := if 1048576 < cs.length then 2 else if bs.length ≠ cs.length then 4 else if 1 ≤ m ∧ m ≤ 4096 then firstE (rcE m cs bs) bs.length 0 else 3
omit hf in
theorem rcE_all {m : Int} {cs bs : List Int} (h : firstE (rcE m cs bs) bs.length 0 = 0) : ∀ k, k < bs.length → (0 ≤ cs.getD k 0 ∧ cs.getD k 0 < m) ∧ (bs.getD k 0 = 0 ∨ bs.getD k 0 = 1) := fun k hk =>
  rcE_ok (firstE_ok _ _ h k (by omega) (by omega))
theorem enc_s (m : Int) (cs bs : List Int) : rangecoder_Encode_r fu (m, (cs, (bs, ()))) = if rcErr m cs bs = 0 then some (rcOut m cs bs, (0, ())) else some ([], (rcErr m cs bs, ())) := by
  unfold rangecoder_Encode_r rcErr
  simp only
  by_cases c1 : 1048576 < cs.length
  · rw [bif_pos (by omega)]; simp only [if_pos c1]; rfl
  rw [bif_neg (by omega)]
  simp only [if_neg c1]
  by_cases c2 : bs.length ≠ cs.length
  · rw [bif_pos (by omega)]; simp only [if_pos c2]; rfl
  rw [bif_neg (by omega)]
  simp only [if_neg c2, joinF_eq]
  by_cases c3 : 1 ≤ m ∧ m ≤ 4096
  · rw [bif_neg (by omega), s_neg (by omega)]
    simp only [if_pos c3]
    unfold rangecoder_Encode_j1
    simp only [cond_false]
    rw [bif_and (by omega) (by omega)]
    have hall : ∀ i, (∀ k, k < i → rcE m cs bs k = 0) → RcOk m i (rcS m cs bs i) := fun i hi => rcS_ok (by omega) i fun k hk => rcE_ok (hi k hk)
    have key := errGen (f := rangecoder_Encode_l2 fu (m, (cs, (bs, ())))) (n := bs.length) (st := fun i => encSt (rcS m cs bs i) i) (E := rcE m cs bs) (out := fun e => some ([], (e, ()))) (fin := some (rcOut m cs bs, (0, ())))
      (fun j i hi hE => enc_step hf (hall i hE) (by omega) (by omega) hi j) (fun hE j => enc_last hf (hall _ hE) (by omega) rfl j) fu 0 (by omega) (by omega) (fun k hk => absurd hk (Nat.not_lt_zero _))
    exact key
  · simp only [if_neg c3]
    have : (bif decide (m < 1) then rangecoder_Encode_j1 fu (m, (cs, (bs, ()))) true else rangecoder_Encode_j1 fu (m, (cs, (bs, ()))) (decide (4096 < m))) = rangecoder_Encode_j1 fu (m, (cs, (bs, ()))) true := by
      by_cases k : m < 1
      · rw [bif_pos k]
      · rw [bif_neg k, s_pos (by omega)]
    rw [this]; rfl
theorem cErr_s (m : Int) (cs bs : List Int) : law_coderErr_r fu (m, (cs, (bs, ()))) = some (rcErr m cs bs, ()) := by
  have within : ∀ x lo hi : Int, R_Within_r fu (x, (lo, (hi, ()))) = some (decide (lo ≤ x ∧ x ≤ hi), ()) := fun x lo hi => by
    unfold R_Within_r
    by_cases h1 : lo ≤ x
    · rw [bif_pos h1]; simp only [h1, true_and]
    · rw [bif_neg h1]; simp [h1]
  unfold law_coderErr_r rcErr
  simp only
  by_cases c1 : 1048576 < cs.length
  · rw [bif_pos (by omega)]; simp only [if_pos c1]
  rw [bif_neg (by omega)]
  simp only [if_neg c1]
  by_cases c2 : bs.length ≠ cs.length
  · rw [bif_pos (by omega)]; simp only [if_pos c2]
  rw [bif_neg (by omega)]
  simp only [if_neg c2, within, bindO_some]
  by_cases c3 : 1 ≤ m ∧ m ≤ 4096
  · rw [s_pos c3]
    simp only [if_pos c3, Bool.not_true, cond_false]
    have key := errGen (f := law_coderErr_l1 fu (m, (cs, (bs, ())))) (n := bs.length) (st := fun i : Nat => (i : Int)) (E := rcE m cs bs) (out := fun e => some (e, ())) (fin := some ((0 : Int), ()))
      (fun j i hi hE => ?_) (fun hE j => ?_) fu 0 (by omega) (by omega) (fun k hk => absurd hk (Nat.not_lt_zero _))
    · refine key.trans ?_
      rw [Nat.sub_zero]
      split
      · rename_i g; rw [g]
      · rfl
    · unfold law_coderErr_l1
      simp only [joinF_eq, Int.toNat_natCast]
      rw [bif_pos (by omega), bif_and (by omega) (by omega), bif_and (by omega) (by omega)]
      simp only [within, bindO_some]
      rw [s_wr (x := m - 1) (by omega) (by omega)]
      by_cases k1 : 0 ≤ bs.getD i 0 ∧ bs.getD i 0 ≤ 1
      · rw [s_pos k1]
        simp only [Bool.not_true, cond_false]
        by_cases k2 : 0 ≤ cs.getD i 0 ∧ cs.getD i 0 ≤ m - 1
        · rw [s_pos k2, if_pos (by unfold rcE; rw [if_pos ⟨k1, k2⟩])]
          unfold law_coderErr_j2
          simp only [Bool.not_true, cond_false]
          rw [s_wr (by omega) (by omega)]; rfl
        · have e3 : rcE m cs bs i = 3 := by unfold rcE; rw [if_neg (by omega)]
          rw [s_neg k2, if_neg (by omega), e3]; rfl
      · have e3 : rcE m cs bs i = 3 := by unfold rcE; rw [if_neg (by omega)]
        rw [s_neg k1, if_neg (by omega), e3]; rfl
    · unfold law_coderErr_l1
      simp only
      rw [bif_neg (by omega)]
  · rw [s_neg c3]
    simp only [if_neg c3, Bool.not_false, cond_true]
/-! ### the reference -/
theorem ref_l5 {v0 : RefT} {v6 w : Int} {j5 : Int × (List Int × (List Int × List Int)) → Option (List Int × Unit)} {ds : List Int} (dg : Dig ds) (hl : ds.length ≤ 2000000) (h0 : 0 ≤ w) (h1 : w < 4294967296) :
    loopF (R_Coded_l5 fu v0 v6 j5) fu (w, (IntKind.i64.wrap ((ds.length : Int) - 1), ds)) = j5 (v6, (addD ds w, (v0.2.2.2.1, v0.2.2.2.2))) := by
  rw [s_wr (by omega) (by omega)]
  refine addLoop (K := fun ds => j5 (v6, (ds, (v0.2.2.2.1, v0.2.2.2.2)))) (by omega) dg h0 h1 (fun j w k ds hc hw h2 h3 => ?_) (fun j w k ds hk hlen hw0 hw1 d0 d1 => ?_)
  · unfold R_Coded_l5
    simp only [joinF_eq]
    rcases hc with hc | hc
    · rw [bif_neg (by omega)]; rfl
    · subst hc
      by_cases k0 : 0 ≤ k
      · rw [bif_pos k0, s_neg (by omega)]; rfl
      · rw [bif_neg k0]; rfl
  · unfold R_Coded_l5
    simp only [joinF_eq]
    rw [bif_pos (by omega), s_pos hw0]
    unfold R_Coded_j6
    simp only [cond_true, Int.toNat_natCast]
    rw [bif_and (by omega) (by omega), bif_and (by omega) (by omega)]
    simp (disch := omega) only [s_wr, s_td, s_tm]
omit hf in
theorem ref_l4x {v0 : RefT} {v6 : Int × (List Int × (List Int × List Int))} {j0 : RefT → Option (List Int × Unit)} {wide : Int} {ds : List Int} (hw : 16777216 ≤ wide) (hi : 0 ≤ v0.2.1 ∧ v0.2.1 < 1048576) (j) :
    R_Coded_l4 fu v0 v6 j0 j (wide, ds) = j0 (wide, (v0.2.1 + 1, (ds, (v6.2.2.1, v6.2.2.2)))) := by
  unfold R_Coded_l4
  rw [bif_neg (by simp only; omega), s_wr (by omega) (by omega)]
theorem ref_l4 {n : Nat} {v0 : RefT} {v6 : Int × (List Int × (List Int × List Int))} {j0 : RefT → Option (List Int × Unit)} {wide low : Int} {out : List Int} (hi : 0 ≤ v0.2.1 ∧ v0.2.1 < 1048576) (hn : n ≤ 1048576) (hm : RcM n 65536 (wide, (low, out))) :
    loopF (R_Coded_l4 fu v0 v6 j0) fu (wide, digs out low) = j0 ((rcSh (wide, (low, out))).1, (v0.2.1 + 1, (digs (rcSh (wide, (low, out))).2.2 (rcSh (wide, (low, out))).2.1, (v6.2.2.1, v6.2.2.2)))) := by
  obtain ⟨w0, w1, l0, l1, dg, ln⟩ := hm
  simp only at w0 w1 l0 l1 dg ln
  by_cases cw : wide < 16777216
  · have e : rcSh (wide, (low, out)) = (wide * 256, (low * 256 % 4294967296, out ++ [low / 16777216])) := by unfold rcSh; rw [if_pos cw]
    rw [e]
    refine loop2 (by omega) (x' := (wide * 256, digs (out ++ [low / 16777216]) (low * 256 % 4294967296))) (fun j => ?_) (fun j => ref_l4x (by omega) hi j)
    unfold R_Coded_l4
    rw [bif_pos (by simp only; omega), bif_pos (by simp only [List.length_cons, List.length_nil, digs_length]; omega)]
    simp only
    rw [s_wr (by omega) (by omega), digs_shift l0 l1]
  · have e : rcSh (wide, (low, out)) = (wide, (low, out)) := by unfold rcSh; rw [if_neg (by simp only; exact cw)]
    rw [e]
    exact loop1 (by omega) fun j => ref_l4x (by omega) hi j
theorem ref_j2 {n : Nat} {v0 : RefT} {c b : Int} {cells : List (Int × Int)} {Z : List Int} {j0 : RefT → Option (List Int × Unit)} {wide low : Int} {out : List Int} (hi : 0 ≤ v0.2.1 ∧ v0.2.1 < 1048576) (hn : n ≤ 1048576) (hm : RcM n 65536 (wide, (low, out)))
    (hb : 0 ≤ b ∧ b ≤ 1) (hc0 : 0 ≤ c) (hc1 : c.toNat < cells.length) (hp : RcP (cells.getD c.toNat (0, 0))) (hZ : Z = (cells.map Prod.fst).set c.toNat ((cells.getD c.toNat (0, 0)).1 + (1 - b))) :
    R_Coded_j2 fu v0 c j0 (wide, (digs out low, (Z, cells.map Prod.snd))) = j0 ((rcSh (wide, (low, out))).1, (v0.2.1 + 1, (digs (rcSh (wide, (low, out))).2.2 (rcSh (wide, (low, out))).2.1, ((cells.set c.toNat (rcLearn (cells.getD c.toNat (0, 0)) b)).map Prod.fst, (cells.set c.toNat (rcLearn (cells.getD c.toNat (0, 0)) b)).map Prod.snd)))) := by
  have hc2 : c.toNat < (cells.map Prod.fst).length := by rw [List.length_map]; exact hc1
  have hc3 : c.toNat < (cells.map Prod.snd).length := by rw [List.length_map]; exact hc1
  subst hZ
  unfold R_Coded_j2
  simp only [joinF_eq, getD_set_self, List.set_set, List.length_set, hc2, hc3, getD_snd]
  rw [List.length_map, List.length_map, List.map_set, List.map_set]
  generalize cells.getD c.toNat (0, 0) = p at hp ⊢
  obtain ⟨z, a⟩ := p
  obtain ⟨z0, za, a1⟩ := hp
  simp only at z0 za a1 ⊢
  rw [bif_and hc0 (by omega), bif_and hc0 (by omega), bif_and hc0 (by omega)]
  simp (disch := omega) only [s_wr]
  unfold rcLearn
  simp only
  by_cases e : a + 1 = 254
  · rw [bif_pos e, if_pos e, bif_and hc0 (by omega), bif_and hc0 (by omega), bif_and hc0 (by omega), bif_and hc0 (by omega), bif_and hc0 (by omega), bif_and hc0 (by omega)]
    simp (disch := omega) only [s_wr, s_td]
    unfold R_Coded_j3
    rw [ref_l4 hf hi hn hm]
  · rw [bif_neg e, if_neg e]
    unfold R_Coded_j3
    rw [ref_l4 hf hi hn hm]
theorem ref_step {m : Int} {n : Nat} {s : RcT} (h : RcOk m n s) {cs bs : List Int} (hn : bs.length ≤ 1048576) (hcb : bs.length = cs.length) (hi : n < bs.length) (hc : 0 ≤ cs.getD n 0 ∧ cs.getD n 0 < m) (hb : bs.getD n 0 = 0 ∨ bs.getD n 0 = 1) (j) :
    R_Coded_l1 fu (m, (cs, (bs, ()))) j (refSt s n) = j (refSt (rcStep (cs.getD n 0) (bs.getD n 0) s) (n + 1)) := by
  have hl := h.len
  generalize hcd : cs.getD n 0 = c at hc ⊢
  generalize hbd : bs.getD n 0 = b at hb ⊢
  have hc' : c.toNat < s.1.length := by omega
  have hp := h.cells _ hc'
  have hm := h.md
  have hW := rcW_bd hp hm.w0 hm.w1
  have hmid := rcMid_ok (b := b) hm hW.1 hW.2
  obtain ⟨cells, wide, low, out⟩ := s
  simp only at hl hc' hp hm hW hmid
  have hm0 := hm
  obtain ⟨w0, w1, l0, l1, dg, ln⟩ := hm0
  simp only at w0 w1 l0 l1 dg ln
  unfold R_Coded_l1 refSt
  simp only [Int.toNat_natCast, hcd, hbd, getD_fst, getD_snd, List.length_map]
  rw [bif_pos (by omega), bif_and (by omega) (by omega), bif_and (by omega) (by omega), bif_and hc.1 (by omega)]
  have ew : IntKind.i64.wrap (IntKind.i64.wrap (Int.tdiv wide (IntKind.i64.wrap ((cells.getD c.toNat (0, 0)).2 + 2))) * IntKind.i64.wrap ((cells.getD c.toNat (0, 0)).1 + 1)) = rcW (cells.getD c.toNat (0, 0)) wide := by
    unfold rcW at hW ⊢
    generalize cells.getD c.toNat (0, 0) = p at hp hW
    obtain ⟨z, a⟩ := p
    obtain ⟨z0, za, a1⟩ := hp
    simp only at z0 za a1 hW ⊢
    have q0 : 0 ≤ wide / (a + 2) := Int.ediv_nonneg (by omega) (by omega)
    have q1 : wide / (a + 2) ≤ wide := Int.ediv_le_self _ (by omega)
    simp (disch := omega) only [s_wr, s_td]
  have ha2 : IntKind.i64.wrap ((cells.getD c.toNat (0, 0)).2 + 2) ≠ 0 := by
    have := hp.z0; have := hp.za; have := hp.a1
    rw [s_wr (by omega) (by omega)]; omega
  rw [bif_pos ha2, bif_and hc.1 (by omega), ew]
  simp only [joinF_eq]
  unfold rcStep
  simp only
  generalize hw' : rcW (cells.getD c.toNat (0, 0)) wide = w at hW hmid ⊢
  have hz1 : IntKind.i64.wrap ((cells.getD c.toNat (0, 0)).1 + 1) = (cells.getD c.toNat (0, 0)).1 + 1 := by
    have := hp.z0; have := hp.za; have := hp.a1
    rw [s_wr (by omega) (by omega)]
  rcases hb with rfl | rfl
  · have e : rcMid 0 w wide low out = (w, (low, out)) := by unfold rcMid; rw [if_pos rfl]
    rw [e] at hmid ⊢
    rw [bif_pos rfl, bif_and hc.1 (by omega), bif_and hc.1 (by omega), hz1]
    rw [ref_j2 hf (n := n) (b := 0) (by simp only; omega) (by omega) hmid (by omega) hc.1 hc' hp (by rw [Int.sub_zero])]
    rfl
  · have e : rcMid 1 w wide low out = (wide - w, ((low + w) % 4294967296, addD out ((low + w) / 4294967296))) := by unfold rcMid; rw [if_neg (by omega)]
    rw [e] at hmid ⊢
    rw [bif_neg (by omega), s_wr (x := wide - w) (by omega) (by omega), ref_l5 hf (digs_dig dg) (by rw [digs_length]; omega) (by omega) (by omega), addD_digs l0 l1]
    rw [ref_j2 hf (n := n) (b := 1) (by simp only; omega) (by omega) hmid (by omega) hc.1 hc' hp (by
      rw [show (cells.getD c.toNat (0, 0)).1 + (1 - 1) = (cells.getD c.toNat (0, 0)).1 by omega, ← getD_fst]
      exact (set_getD_self (by rw [List.length_map]; exact hc')).symm)]
    rfl
theorem ref_last {m : Int} {n : Nat} {s : RcT} (h : RcOk m n s) (hn : n ≤ 1048576) {cs bs : List Int} (hb : bs.length = n) (j) : R_Coded_l1 fu (m, (cs, (bs, ()))) j (refSt s n) = some (trim (digs s.2.2.2 s.2.2.1), ()) := by
  obtain ⟨w0, w1, l0, l1, dg, ln⟩ := h.md
  obtain ⟨cells, wide, low, out⟩ := s
  simp only at w0 w1 l0 l1 dg ln
  have hd := digs_dig (low := low) dg
  have hln := digs_length out low
  unfold R_Coded_l1 refSt
  simp only
  rw [bif_neg (by omega)]
  generalize hv : (wide, ((n : Int), (digs out low, (cells.map Prod.fst, cells.map Prod.snd)))) = v0
  have hv2 : v0.2.2.1 = digs out low := by rw [← hv]
  refine stLoopC (n := (digs out low).length) (by omega) (st := fun i => ((i : Int), (digs out low).take i)) rfl (fun j i hi => ?_) (fun j => ?_)
  · unfold R_Coded_l7
    have hb := dig_at hd hi
    simp only [hv2, Int.toNat_natCast, w8m]
    rw [bif_pos (by omega), bif_and (by omega) (by omega), bif_pos (by simp only [List.length_take, List.length_cons, List.length_nil]; omega), s_wr (by omega) (by omega), take_succ_getD (d := 0) hi, show (digs out low).getD i 0 % 256 = (digs out low).getD i 0 by omega]
    rfl
  · unfold R_Coded_l7
    simp only [hv2]
    rw [bif_neg (by omega), List.take_length]
    exact ref_trim hf (by omega)
theorem coded_s {m : Int} {cs bs : List Int} (h : rcErr m cs bs = 0) : R_Coded_r fu (m, (cs, (bs, ()))) = some (rcOut m cs bs, ()) := by
  unfold rcErr at h
  split at h
  · omega
  split at h
  · omega
  split at h
  · rename_i c1 c2 c3
    have hall := rcE_all h
    have hok : ∀ i, i ≤ bs.length → RcOk m i (rcS m cs bs i) := fun i hi => rcS_ok (by omega) i fun k hk => hall k (by omega)
    unfold R_Coded_r
    simp only
    rw [bif_and (by omega) (by omega), bif_and (by omega) (by omega)]
    refine stLoopC (n := bs.length) (by omega) (st := fun i => refSt (rcS m cs bs i) i) ?_ (fun j i hi => ref_step hf (hok i (by omega)) (by omega) (by omega) hi (hall i hi).1 (hall i hi).2 j) (fun j => ref_last hf (hok _ (Nat.le_refl _)) (by omega) rfl j)
    show refSt (List.replicate m.toNat (0, 0), (4294967295, (0, []))) 0 = _
    unfold refSt
    simp only [List.map_replicate]
    rfl
  · omega
theorem rangecoderBytes_s (x : Int × (List Int × (List Int × Unit))) : law_RangecoderBytes_r fu x = some (true, ()) := by
  obtain ⟨m, cs, bs, ⟨⟩⟩ := x
  unfold law_RangecoderBytes_r
  simp only
  rw [show law_rangecoderWorks_r fu () = some (true, ()) from rfl, enc_s hf, cErr_s hf]
  simp only [bindO_some, Bool.not_true, cond_false]
  by_cases h : rcErr m cs bs = 0
  · rw [if_pos h]
    simp only [bindO_some]
    rw [bif_neg (by omega), bif_pos trivial, coded_s hf h]
    simp only [bindO_some]
    unfold R_SameBytes_r
    simp only [bindO_some, decide_true]
  · rw [if_neg h]
    simp only [bindO_some]
    rw [bif_pos h]
    unfold law_none_r
    simp only [List.length_nil, Int.natCast_zero, decide_true, cond_true, bindO_some]
end
end Go.Proofs.Ytedjnjgnadbkaaa
/- The step from a walk to a law's row, once for all laws of the seat: a law that returns true and leaves all that was there as it was. -/
namespace Go.Proofs.Ytedjnjgnadbkaaa
open Go.ChangeShapes Go.WideShapes Go.ChangeAt Go.RowKit

theorem own : ownKnob Try.prog.godebug = none := by kernel_rfl
theorem laidOut : laidOutB Try.prog = true := by kernel_rfl
theorem boolT : Try.prog.underlying 4 = some .bool := Try.underlying4

theorem trodAll_stays {H : Type} {enc : TypeId × Value → H} {P : Program} (hl : laidOutB P = true) {W W' : World} (hb : Below W.heap.size W W') :
    ∀ {ts : List TypeId} {vs : List Value} {ds : List (DataW H)} {ps : List MemPlace}, (∀ t ∈ ts, P.readableRec t = true ∧ t < P.types.size) → DataW.TrodAll enc P W 0 (fun _ => true) true ts vs ds ps →
      (∀ x ∈ ps, x.block < W.heap.size) → DataW.TrodAll enc P W' 0 (fun b => decide (b < W.heap.size)) true ts vs ds ps
  | [], [], [], _, _, h, _ => h
  | t :: ts, v :: vs, d :: ds, _, hr, ⟨p, q, h1, h2, e⟩, hlt =>
    ⟨p, q, Below.trod hl (hr t (by simp)).1 (hr t (by simp)).2 h1 hb (fun x hx => hlt x (by rw [e]; simp [hx])),
      trodAll_stays hl hb (fun t' ht => hr t' (by simp [ht])) h2 (fun x hx => hlt x (by rw [e]; simp [hx])), e⟩
  | [], [], _ :: _, _, _, h, _ => h.elim
  | [], _ :: _, _, _, _, h, _ => h.elim
  | _ :: _, [], _, _, _, h, _ => h.elim
  | _ :: _, _ :: _, [], _, _, h, _ => h.elim

/-- what a law's row asks of the readable types among its parameters -/
def readsAll (P : Program) (ts : List TypeId) : Bool := ts.all fun t => P.readableRec t && decide (t < P.types.size)
theorem readsAll_all {P : Program} {ts : List TypeId} (h : readsAll P ts = true) : ∀ t ∈ ts, P.readableRec t = true ∧ t < P.types.size := by
  intro t ht
  have := List.all_eq_true.1 h t ht
  simpa using this

theorem trodAll_length {H : Type} {enc : TypeId × Value → H} {P : Program} {W : World} {base : Nat} {spare : Nat → Bool} {held : Bool} :
    ∀ {ts : List TypeId} {vs : List Value} {ds : List (DataW H)} {ps : List MemPlace}, DataW.TrodAll enc P W base spare held ts vs ds ps → ds.length = ts.length
  | [], [], [], _, _ => rfl
  | _ :: _, _ :: _, _ :: _, _, ⟨_, _, _, h2, _⟩ => by simp [trodAll_length h2]
  | [], [], _ :: _, _, h => h.elim
  | [], _ :: _, _, _, h => h.elim
  | _ :: _, [], _, _, h => h.elim
  | _ :: _, _ :: _, [], _, h => h.elim

set_option maxRecDepth 100000 in
theorem law_lifted {os : Os} (started : os.Started) {H : Type} {enc : TypeId × Value → H} {f : FuncId} {fn : Func} {s : ChangeSpec}
    (noInit : Try.checked.prog.inits.idxOf? f = none) (hfn : Try.checked.prog.funcs[f]? = some fn)
    (witness : ∃ (w : World) (tape : Tape) (i : Input), w.os = os ∧ (w.forCall tape i).Shaped Try.checked.prog ∧ i.vars = [] ∧ Input.okWide Try.checked.prog (w.forCall tape i) .any w.heap.size f i ∧
      s.pre6 enc Try.checked.prog fn [] false (w.forCall tape i).memory i.args ∧ ({} : Assume).holds Try.checked.prog (lone (Frame.enter Try.checked.prog f i.args .normal) [] (w.forCall tape i)))
    (hvars : s.vars = []) (hres : fn.resultTypes = #[4]) (hread : readsAll Try.prog fn.params.toList = true)
    (hspec : ∀ ds : List (DataW H), ds.length = fn.params.toList.length → s.fn H ds = { results := [.lit (.bool true)], args := ds })
    (walk : ∀ (W : World) (base : Nat) (args : List Value) (ds : List (DataW H)) (ps : List MemPlace),
      (∀ (j : Nat) t v, fn.params[j]? = some t → args[j]? = some v → Value.okWide Try.prog W .any base t v) → DataW.TrodAll enc Try.prog W 0 (fun _ => true) true fn.params.toList args ds ps →
      (DataW.weightsEach Try.prog fn.params.toList ds).all (· ≤ reachBytes) = true → (∀ x ∈ ps, x.block < W.heap.size) →
      Calls Try.prog f args.toArray W fun e W' => e = .returned (.bool true) ∧ Below W.heap.size W W') :
    ReturnsInHanded {} Try.checked os f .any (s.pre6 enc Try.checked.prog fn [] false) (s.post enc Try.checked.prog fn false true false false) := by
  refine returnsInHanded_of_change_sized (C := Try.checked) own started noInit hfn witness ?_
  intro W base args ds gs before hval hW _ hsz _
  have hW' := hW
  obtain ⟨p, q, hA0, hV, rfl, hfz, hnd⟩ := hW
  rw [hvars] at hV
  obtain ⟨rfl, rfl⟩ := trodVars_none hV
  have hA : DataW.TrodAll enc Try.prog W 0 (fun _ => true) true fn.params.toList args.toList ds p := hA0
  have hlen : ds.length = fn.params.toList.length := trodAll_length hA
  have hlt : ∀ x ∈ p, x.block < W.heap.size := fun x hx => hW'.lt x (by simpa using hx)
  have hargs : args.toList.toArray = args := by simp
  have hsz' : (DataW.weightsEach Try.prog fn.params.toList ds).all (· ≤ reachBytes) = true := by
    have h := hsz
    have hvt : s.plain.varTypes Try.checked.prog = [] := by simp [DataSpec.varTypes, ChangeSpec.plain, hvars]
    rw [hvt] at h
    simp only [List.append_nil] at h
    exact h
  have hw := walk W base args.toList ds p (fun j t v ht hv => hval j t v ht (by simpa using hv)) hA hsz' hlt
  rw [hargs] at hw
  refine hw.mono fun e W' ⟨he, hb⟩ => ⟨.bool true, he, ?_⟩
  have hsf : s.fn H (ds ++ []) = { results := [.lit (.bool true)], args := ds } := by rw [List.append_nil]; exact hspec ds hlen
  refine ⟨ds, [], p ++ [], [], p, [], hW', ?_, ?_, ?_, hb.frame _, fun h => by cases h⟩
  · rw [hsf, hres]
    exact trodAll_mk1 (shut_bool boolT true)
  · rw [hsf]
    exact trodAll_stays laidOut hb (readsAll_all hread) hA hlt
  · rw [hsf, hvars]
    rfl
end Go.Proofs.Ytedjnjgnadbkaaa
/- Arguments opened: what slices and structs of numbers read as. -/
set_option maxRecDepth 100000
namespace Go.Proofs.Ytedjnjgnadbkaaa
open Go.ChangeShapes Go.WideShapes Go.ChangeAt Go.RowKit Go.Deep

theorem choose_list {α : Type} {n : Nat} {Q : Nat → α → Prop} (h : ∀ i, i < n → ∃ p, Q i p) : ∃ l : List α, l.length = n ∧ ∀ i p, l[i]? = some p → Q i p := by
  induction n with
  | zero => exact ⟨[], rfl, by intro i p hi; simp at hi⟩
  | succ n ih =>
    obtain ⟨l, hl, hq⟩ := ih (fun i hi => h i (by omega))
    obtain ⟨p, hp⟩ := h n (by omega)
    refine ⟨l ++ [p], by simp [hl], fun i q hi => ?_⟩
    rcases Nat.lt_trichotomy i n with hlt | rfl | hgt
    · rw [List.getElem?_append_left (by omega)] at hi
      exact hq i q hi
    · rw [List.getElem?_append_right (by omega), hl] at hi
      simp at hi
      subst hi; exact hp
    · rw [List.getElem?_eq_none (by simp; omega)] at hi
      cases hi

section
variable {H : Type} {enc : TypeId × Value → H} {P : Program} {w : World} {base : Nat} {spare : Nat → Bool} {held : Bool}
/-- a slice, whatever its elements: of each element its cells and its reading -/
theorem rd_slice {t e : TypeId} {fuel : Nat} {v : Value} {x : DataW H × List MemPlace} (ht : P.underlying t = some (.slice e)) (hc : 0 < P.cellsOf e) (h : DataW.trod enc P w base spare held fuel t [v] = some x) :
    ∃ A n c, v = .slice A n c ∧ n ≤ c ∧ c ≤ maxLen ∧ ∀ i, i < n → ∃ b o cs n' x', A = some ⟨b, o, none⟩ ∧ cs.length = P.cellsOf e ∧ (∀ j u, cs[j]? = some u → w.cell? ⟨b, o + i * P.cellsOf e + j, none⟩ = some u) ∧
      DataW.trod enc P w base spare held n' e cs = some x' := by
  rcases open_slice ht h with ⟨h0, _⟩ | ⟨a, len, cap, m, n', D, Pl, hcs, _, hl, hm, hmm, _, hi⟩
  · simp at h0
    subst h0
    exact ⟨none, 0, 0, rfl, by omega, by unfold maxLen; omega, by intro i hi; omega⟩
  · simp at hcs
    subst hcs
    refine ⟨some a, len, cap, rfl, hl, hm, fun i hil => ?_⟩
    have hlm : len ≤ m := by rw [hmm]; split <;> omega
    obtain ⟨cs, h1, h2⟩ := hi i (by omega)
    obtain ⟨hb, hlen, hat⟩ := World.cells?_some h1
    obtain ⟨b, o, spot⟩ := a
    have h00 := hat 0 (by omega)
    have hsp : spot = none := by
      obtain ⟨cs0, g1, _⟩ := hi 0 (by omega)
      obtain ⟨_, gl, gat⟩ := World.cells?_some g1
      have hx := gat 0 (by omega)
      rw [List.getElem?_eq_getElem (by omega)] at hx
      simpa [Addr.add] using World.cell?_spot hx
    subst hsp
    refine ⟨b, o, cs, n', _, rfl, hlen, ?_, h2⟩
    intro j u hu
    have hjl : j < P.cellsOf e := by rw [← hlen]; exact (List.getElem?_eq_some_iff.1 hu).1
    have := hat j hjl
    rw [hu, Addr.add_lit, Addr.add_lit] at this
    exact this
end

end Go.Proofs.Ytedjnjgnadbkaaa
/- Arguments opened, as abstract values. -/
set_option maxRecDepth 100000
namespace Go.Proofs.Ytedjnjgnadbkaaa
open Go Go.ChangeShapes Go.WideShapes Go.ChangeAt Go.RowKit Go.Deep

section
variable {H : Type} {enc : TypeId × Value → H} {P : Program} {w : World} {base : Nat} {spare : Nat → Bool} {held : Bool}
/-- data of the caller's -/
abbrev RelC (w : World) : AV → Value → Prop := RelD w (fun _ => False) w.heap.size
/-- one element's cells, read as enc p -/
def Reads {α : Type} (w : World) (sz : Nat) (ec : α → List AV) (Q : α → Prop) (cs : List Value) : Prop :=
  ∃ p, Q p ∧ (ec p).length = sz ∧ ∀ (j : Nat) (a : AV) (u : Value), (ec p)[j]? = some a → cs[j]? = some u → RelC w a u
theorem ro_slice {α : Type} (ec : α → List AV) (Q : α → Prop) {t e : TypeId} {sz fuel : Nat} {v : Value} {x : DataW H × List MemPlace} (ht : P.underlying t = some (.slice e)) (hz : P.cellsOf e = sz) (hc : 0 < sz)
    (hel : ∀ (fuel : Nat) (cs : List Value) (x : DataW H × List MemPlace), cs.length = sz → DataW.trod enc P w base spare held fuel e cs = some x → Reads w sz ec Q cs) (h : DataW.trod enc P w base spare held fuel t [v] = some x) :
    ∃ xs : List α, (∀ p ∈ xs, Q p) ∧ RelC w (.ro false sz (xs.map ec)) v := by
  subst hz
  obtain ⟨A, n, c, rfl, hn, hm, hi⟩ := rd_slice ht hc h
  obtain ⟨xs, hl, hq⟩ := choose_list (Q := fun i (p : α) => Q p ∧ ∃ (b o : Nat) (cs : List Value), A = some ⟨b, o, none⟩ ∧ cs.length = P.cellsOf e ∧ (∀ (j : Nat) (u : Value), cs[j]? = some u → w.cell? ⟨b, o + i * P.cellsOf e + j, none⟩ = some u) ∧ (ec p).length = P.cellsOf e ∧ ∀ (j : Nat) (a : AV) (u : Value), (ec p)[j]? = some a → cs[j]? = some u → RelC w a u) (n := n) (by
    intro i hil
    obtain ⟨b, o, cs, n', x', hA, hlen, hat, htr⟩ := hi i hil
    obtain ⟨p, h1, h2, h3⟩ := hel n' cs x' hlen htr
    exact ⟨p, h1, b, o, cs, hA, hlen, hat, h2, h3⟩)
  subst hl
  refine ⟨xs, fun p hp => ?_, ?_⟩
  · obtain ⟨i, hi⟩ := List.mem_iff_getElem?.1 hp
    exact (hq i p hi).1
  have key : ∀ (i : Nat) (row : List AV) (j : Nat) (a : AV), (xs.map ec)[i]? = some row → row[j]? = some a → ∃ b o u, A = some ⟨b, o, none⟩ ∧ w.cell? ⟨b, o + i * P.cellsOf e + j, none⟩ = some u ∧ RelC w a u := by
    intro i row j a hr ha
    rw [List.getElem?_map] at hr
    obtain ⟨p, hp, rfl⟩ := Option.map_eq_some_iff.1 hr
    obtain ⟨_, b, o, cs, hA, hlen, hat, hel, hrel⟩ := hq i p hp
    have hj : j < cs.length := by rw [hlen, ← hel]; exact (List.getElem?_eq_some_iff.1 ha).1
    have hu : cs[j]? = some cs[j] := List.getElem?_eq_getElem hj
    exact ⟨b, o, cs[j], hA, hat j _ hu, hrel j a _ ha hu⟩
  have hcon := RelD.ro (w := w) (own := fun _ => False) (bs := w.heap.size) false (P.cellsOf e) (xs.map ec) A c (fun i j => match A with
    | some ⟨b, o, _⟩ => (w.cell? ⟨b, o + i * P.cellsOf e + j, none⟩).getD undef
    | none => undef) (by simpa using hn) hm (fun i hi hA => by
      have hi : i < xs.length := by simpa using hi
      obtain ⟨_, b, o, _, h1, _⟩ := hq i xs[i] (List.getElem?_eq_getElem hi)
      rw [hA] at h1; cases h1) (fun i row j a hr ha => by
      obtain ⟨b, o, u, hA, hu, _⟩ := key i row j a hr ha
      subst hA
      exact ⟨b, o, rfl, fun h => h.elim, (fun h => by cases h), by simp [hu]⟩) (fun i row j a hr ha => by
      obtain ⟨b, o, u, hA, hu, hr⟩ := key i row j a hr ha
      subst hA
      simpa [hu] using hr)
  rw [List.length_map] at hcon
  exact hcon
end
/-- a law that answers true -/
theorem AF.yes {P : Program} {F : FuncId} {xs : List AV} {vs : Array Value} {w : World} (h : AF P F xs (.bool true)) (ha : ArgsV w (Gh.none w.heap.size) xs vs) : Calls P F vs w fun e w' => e = .returned (.bool true) ∧ Below w.heap.size w w' :=
  (h.out w vs ha).mono fun e w' ⟨v, he, hb, hv⟩ => ⟨by rw [he, hv.bool'], hb⟩
end Go.Proofs.Ytedjnjgnadbkaaa
/- Arguments of any type, opened by one theorem; the last step of a law that a residual program answers. -/
set_option maxRecDepth 100000
namespace Go.Proofs.Ytedjnjgnadbkaaa
open Go Go.ChangeShapes Go.WideShapes Go.ChangeAt Go.RowKit Go.Deep

/-- what every argument of a type meets -/
def Ty.wf : (t : Ty) → t.den → Prop
  | .int k, n => (Lit.int k n).wf = true
  | .bool, _ => True
  | .str, s => List.length s ≤ maxLen
  | .list t, xs => List.length xs ≤ maxLen ∧ ∀ x ∈ (xs : List t.den), t.wf x
  | .unit, _ => True
  | .pair a b, x => a.wf x.1 ∧ b.wf x.2
  | .agg t, x => t.wf x
  | .ptr _, _ => False
def prB (t : Ty) (f : Ty → Ty → Bool) : Bool := match t with
  | .pair x y => f x y
  | _ => false
def unB (t : Ty) : Bool := match t with
  | .unit => true
  | _ => false
theorem prB_ok {t : Ty} {f : Ty → Ty → Bool} (h : prB t f = true) : ∃ x y, t = .pair x y ∧ f x y = true := by
  unfold prB at h
  split at h
  · exact ⟨_, _, rfl, h⟩
  · cases h
theorem unB_ok {t : Ty} (h : unB t = true) : t = .unit := by
  unfold unB at h
  split at h
  · rfl
  · cases h
def fsB (g : TypeId → Ty → Bool) : List Field → Nat → Ty → Bool
  | [], _, t => unB t
  | [a], o, t => Nat.beq a.offset o && g a.type t
  | a :: b :: l, o, t => prB t fun x y => Nat.beq a.offset o && g a.type x && fsB g (b :: l) (o + x.size) y
def arB (g : Ty → Bool) : Nat → Ty → Bool
  | 0, t => unB t
  | 1, t => g t
  | n + 2, t => prB t fun x y => g x && arB g (n + 1) y
def intB (k : IntKind) (t : Ty) : Bool := match t with
  | .int k' => decide (k' = k)
  | _ => false
def boolB (t : Ty) : Bool := match t with
  | .bool => true
  | _ => false
def strB (t : Ty) : Bool := match t with
  | .str => true
  | _ => false
def sliceB (g : Ty → Bool) (t : Ty) : Bool := match t with
  | .list t' => g t' && Nat.blt 0 t'.size
  | _ => false
/-- a type as the program has it -/
def tyB (P : Program) : Nat → TypeId → Ty → Bool
  | 0, _, _ => false
  | f + 1, tid, t => Nat.beq (P.cellsOf tid) t.size && (match P.underlying tid with
    | some (.int k) => intB k t
    | some .bool => boolB t
    | some .string => strB t
    | some (.slice e) => sliceB (tyB P f e) t
    | some (.struct ⟨fs⟩) => fsB (tyB P f) fs 0 t
    | some (.array n e) => arB (tyB P f e) n t
    | _ => false)
section
variable {H : Type} {enc : TypeId × Value → H} {P : Program} {w : World} {base : Nat} {spare : Nat → Bool} {held : Bool}
abbrev ReadsT (w : World) (t : Ty) (cs : List Value) : Prop := Reads w t.size (t.cells false) t.wf cs
theorem tyB_size {f : Nat} {tid : TypeId} {t : Ty} (h : tyB P f tid t = true) : P.cellsOf tid = t.size := by
  cases f with
  | zero => cases h
  | succ f => rw [tyB, Bool.and_eq_true] at h; exact Nat.eq_of_beq_eq_true h.1
theorem ReadsT.pair {a b : Ty} {c d : List Value} (h : ReadsT w a c) (k : ReadsT w b d) (hl : c.length = a.size) : ReadsT w (.pair a b) (c ++ d) := by
  obtain ⟨x, x1, x2, x3⟩ := h
  obtain ⟨y, y1, y2, y3⟩ := k
  refine ⟨(x, y), ⟨x1, y1⟩, Ty.cells_length _ _ _, fun j v u hv hu => ?_⟩
  rw [Ty.cells] at hv
  by_cases hj : j < a.size
  · rw [List.getElem?_append_left (by rw [x2]; exact hj)] at hv
    rw [List.getElem?_append_left (by omega)] at hu
    exact x3 j v u hv hu
  · rw [List.getElem?_append_right (by rw [x2]; omega), x2] at hv
    rw [List.getElem?_append_right (by omega), hl] at hu
    exact y3 _ v u hv hu
theorem ReadsT.unit : ReadsT w .unit [] := ⟨(), trivial, rfl, fun j a u h _ => by simp [Ty.cells] at h⟩
theorem fs_reads {g : TypeId → Ty → Bool} (hg : ∀ (tid : TypeId) (t : Ty) (n : Nat) (cs : List Value) (x : DataW H × List MemPlace), g tid t = true → cs.length = t.size → DataW.trod enc P w base spare held n tid cs = some x → ReadsT w t cs) (hsz : ∀ tid t, g tid t = true → P.cellsOf tid = t.size) {cs : List Value} :
    ∀ (l : List Field) (o : Nat) (t : Ty), fsB g l o t = true → (∀ a ∈ l, ∃ n y, DataW.trod enc P w base spare held n a.type ((cs.drop a.offset).take (P.cellsOf a.type)) = some y) → o + t.size ≤ cs.length → ReadsT w t ((cs.drop o).take t.size)
  | [], o, t, h, _, _ => by
    rw [unB_ok h, show Ty.unit.size = 0 from rfl, List.take_zero]; exact .unit
  | [a], o, t, h, hr, hl => by
    rw [fsB, Bool.and_eq_true] at h
    obtain ⟨n, y, hy⟩ := hr a (by simp)
    rw [Nat.eq_of_beq_eq_true h.1, hsz _ _ h.2] at hy
    exact hg _ _ n _ y h.2 (by rw [List.length_take, List.length_drop]; omega) hy
  | a :: b :: l, o, t, h, hr, hl => by
    obtain ⟨x, y, rfl, h'⟩ := prB_ok h
    clear h
    have h := h'
    clear h'
    rw [Bool.and_eq_true, Bool.and_eq_true] at h
    obtain ⟨n, z, hz⟩ := hr a (by simp)
    rw [Nat.eq_of_beq_eq_true h.1.1, hsz _ _ h.1.2] at hz
    have hs : (Ty.pair x y).size = x.size + y.size := rfl
    rw [hs] at hl
    have h1 := hg _ _ n _ z h.1.2 (by rw [List.length_take, List.length_drop]; omega) hz
    have h2 := fs_reads hg hsz (b :: l) (o + x.size) y h.2 (fun a ha => hr a (List.mem_cons_of_mem _ ha)) (by omega)
    rw [hs, List.take_add, List.drop_drop]
    exact h1.pair h2 (by rw [List.length_take, List.length_drop]; omega)
theorem ar_reads {g : Ty → Bool} {e : TypeId} (hg : ∀ (t : Ty) (n : Nat) (cs : List Value) (x : DataW H × List MemPlace), g t = true → cs.length = t.size → DataW.trod enc P w base spare held n e cs = some x → ReadsT w t cs) (hsz : ∀ t, g t = true → P.cellsOf e = t.size) {cs : List Value} :
    ∀ (k o : Nat) (t : Ty), arB g k t = true → (∀ i, i < k → ∃ n y, DataW.trod enc P w base spare held n e ((cs.drop (o + i * P.cellsOf e)).take (P.cellsOf e)) = some y) → o + t.size ≤ cs.length → ReadsT w t ((cs.drop o).take t.size)
  | 0, o, t, h, _, _ => by
    rw [unB_ok h, show Ty.unit.size = 0 from rfl, List.take_zero]; exact .unit
  | 1, o, t, h, hr, hl => by
    rw [arB] at h
    obtain ⟨n, y, hy⟩ := hr 0 (by omega)
    rw [hsz _ h, Nat.zero_mul, Nat.add_zero] at hy
    exact hg _ n _ y h (by rw [List.length_take, List.length_drop]; omega) hy
  | k + 2, o, t, h, hr, hl => by
    obtain ⟨x, y, rfl, h'⟩ := prB_ok h
    clear h
    have h := h'
    clear h'
    rw [Bool.and_eq_true] at h
    obtain ⟨n, z, hz⟩ := hr 0 (by omega)
    rw [hsz _ h.1, Nat.zero_mul, Nat.add_zero] at hz
    have hs : (Ty.pair x y).size = x.size + y.size := rfl
    rw [hs] at hl
    have h1 := hg _ n _ z h.1 (by rw [List.length_take, List.length_drop]; omega) hz
    have h2 := ar_reads hg hsz (k + 1) (o + x.size) y h.2 (fun i hi => by
      obtain ⟨n, z, hz⟩ := hr (i + 1) (by omega)
      refine ⟨n, z, ?_⟩
      rw [← hz, ← hsz _ h.1, Nat.add_mul, Nat.one_mul, Nat.add_assoc, Nat.add_comm (P.cellsOf e)]) (by omega)
    rw [hs, List.take_add, List.drop_drop]
    exact h1.pair h2 (by rw [List.length_take, List.length_drop]; omega)
theorem ro_len {own : Nat → Prop} {bs sz : Nat} {fr : Bool} {rows : List (List AV)} {v : Value} (h : RelD w own bs (.ro fr sz rows) v) : rows.length ≤ maxLen := by
  cases h with
  | ro fr sz rows A c f hc hm h0 h1 h2 => omega
theorem one_cell {cs : List Value} (h : cs.length = 1) : ∃ u, cs = [u] := by match cs, h with | [u], _ => exact ⟨u, rfl⟩
theorem reads_ty : ∀ (f : Nat) (tid : TypeId) (t : Ty) (n : Nat) (cs : List Value) (x : DataW H × List MemPlace), tyB P f tid t = true → cs.length = t.size → DataW.trod enc P w base spare held n tid cs = some x → ReadsT w t cs
  | 0, _, _, _, _, _, h, _, _ => by cases h
  | f + 1, tid, t, n, cs, x, h, hl, hx => by
    have hsize := tyB_size h
    rw [tyB, Bool.and_eq_true] at h
    obtain ⟨_, h⟩ := h
    split at h
    · rename_i k hu
      unfold intB at h
      split at h
      · have hk := of_decide_eq_true h
        subst hk
        obtain ⟨m, rfl, _, hwf⟩ := DataW.trod_int hu hx
        refine ⟨m, hwf, rfl, fun j a u ha hu => ?_⟩
        match j with
        | 0 => simp [Ty.cells] at ha hu; subst ha; subst hu; exact .int _ _
        | j + 1 => simp [Ty.cells] at ha
      · cases h
    · rename_i hu
      unfold boolB at h
      split at h
      · obtain ⟨m, rfl, _⟩ := DataW.trod_bool hu hx
        refine ⟨m, trivial, rfl, fun j a u ha hu => ?_⟩
        match j with
        | 0 => simp [Ty.cells] at ha hu; subst ha; subst hu; exact .bool _
        | j + 1 => simp [Ty.cells] at ha
      · cases h
    · rename_i hu
      unfold strB at h
      split at h
      · obtain ⟨s, rfl, _, hs⟩ := DataW.trod_string hu hx
        refine ⟨s.data.toList, by rw [Ty.wf, Array.length_toList]; exact hs, rfl, fun j a u ha hu => ?_⟩
        match j with
        | 0 => simp [Ty.cells] at ha hu; subst ha; subst hu; exact .str _
        | j + 1 => simp [Ty.cells] at ha
      · cases h
    · rename_i e hu
      unfold sliceB at h
      split at h
      · rename_i _ t' _
        rw [Bool.and_eq_true] at h
        have hpos : 0 < t'.size := Nat.le_of_ble_eq_true h.2
        obtain ⟨v, rfl⟩ := one_cell hl
        obtain ⟨xs, hw, hr⟩ := ro_slice (t'.cells false) t'.wf hu (tyB_size h.1) hpos (fun m cs x hl hx => reads_ty f e t' m cs x h.1 hl hx) hx
        refine ⟨xs, ⟨?_, hw⟩, rfl, fun j a u ha hu => ?_⟩
        · have := ro_len hr
          rw [List.length_map] at this
          exact this
        match j with
        | 0 => simp [Ty.cells] at ha hu; subst ha; subst hu; exact hr
        | j + 1 => simp [Ty.cells] at ha
      · cases h
    · rename_i fs hu
      obtain ⟨xs, m, _, _, _, hxl, hat⟩ := DataW.trod_struct hu hx
      have := fs_reads (cs := cs) (fun tid t n cs x h1 h2 h3 => reads_ty f tid t n cs x h1 h2 h3) (fun tid t h => tyB_size h) fs 0 t h (fun a ha => by
        obtain ⟨i, hi⟩ := List.mem_iff_getElem?.1 ha
        have hi' : i < xs.length := by rw [hxl]; exact (List.getElem?_eq_some_iff.1 hi).1
        exact ⟨m, _, by rw [hat i a (by simpa using hi), List.getElem?_eq_getElem hi']⟩) (by omega)
      rw [List.drop_zero, List.take_of_length_le (by omega)] at this
      exact this
    · rename_i k e hu
      obtain ⟨xs, m, _, _, _, hxl, hat⟩ := DataW.trod_array hu hx
      have := ar_reads (cs := cs) (e := e) (fun t n cs x h1 h2 h3 => reads_ty f e t n cs x h1 h2 h3) (fun t h => tyB_size h) k 0 t h (fun i hi => by
        have hi' : i < xs.length := by rw [hxl]; exact hi
        exact ⟨m, _, by rw [Nat.zero_add, hat i hi, List.getElem?_eq_getElem hi']⟩) (by omega)
      rw [List.drop_zero, List.take_of_length_le (by omega)] at this
      exact this
    · cases h
/-! ### Arguments -/
def aggP (P : Program) (tid : TypeId) : Bool := match P.underlying tid with
  | some (.struct _) => true
  | some (.array _ _) => true
  | _ => false
def cellP (P : Program) (tid : TypeId) : Bool := match P.underlying tid with
  | some (.int _) => true
  | some .bool => true
  | some .string => true
  | some (.slice _) => true
  | _ => false
def argB (P : Program) (tid : TypeId) (a : Ty) : Bool := match a with
  | .agg t => tyB P 9 tid t && aggP P tid
  | .int k => tyB P 9 tid (.int k) && cellP P tid
  | .bool => tyB P 9 tid .bool && cellP P tid
  | .str => tyB P 9 tid .str && cellP P tid
  | .list t => tyB P 9 tid (.list t) && cellP P tid
  | _ => false
def argsB (P : Program) : List TypeId → Ty → Bool
  | [], t => unB t
  | tid :: l, t => prB t fun a b => argB P tid a && argsB P l b
theorem okWide_arr {n b : Nat} {r : Go.Reach} {t e : TypeId} {v : Value} (ht : P.underlying t = some (.array n e)) (h : Value.okWide P w r b t v) : ∃ cs, v = .agg cs ∧ cs.size = P.cellsOf t := by
  simp only [Value.okWide, ht] at h
  obtain ⟨cs, h1, h2, _⟩ := h
  exact ⟨cs, h1, h2⟩
theorem arg_agg {tid : TypeId} {t : Ty} {v : Value} {d : DataW H} {p : List MemPlace} {b : Nat} (h : tyB P 9 tid t = true) (ha : aggP P tid = true) (hv : Value.okWide P w .any b tid v) (hd : DataW.Trod enc P w base spare held tid v d p) : ∃ x : t.den, t.wf x ∧ RelV w (Gh.none w.heap.size) (.agg (t.cells false x)) v := by
  obtain ⟨cs, rfl, hs⟩ : ∃ cs, v = .agg cs ∧ cs.size = P.cellsOf tid := by
    unfold aggP at ha
    split at ha
    · rename_i h1; exact okWide_struct h1 hv
    · rename_i h1; exact okWide_arr h1 hv
    · cases ha
  obtain ⟨n, hd⟩ := hd
  have hl : cs.toList.length = t.size := by rw [← tyB_size h, ← hs]; simp
  obtain ⟨x, x1, x2, x3⟩ := reads_ty 9 tid t n cs.toList _ h hl hd
  exact ⟨x, x1, .agg _ _ (by rw [x2, ← hl]; simp) fun i a u ha hu => .dat (x3 i a u ha (by simpa using hu))⟩
theorem arg_cell {tid : TypeId} {t : Ty} {v : Value} {d : DataW H} {p : List MemPlace} {b : Nat} (h : tyB P 9 tid t = true) (hc : cellP P tid = true) (h1 : t.size = 1) (hv : Value.okWide P w .any b tid v) (hd : DataW.Trod enc P w base spare held tid v d p) : ∃ x : t.den, t.wf x ∧ ∀ a, (t.cells false x)[0]? = some a → RelV w (Gh.none w.heap.size) a v := by
  have hd : ∃ n, DataW.trod enc P w base spare held n tid [v] = some (d, p) := by
    unfold cellP at hc
    split at hc
    · rename_i hu
      obtain ⟨m, rfl⟩ := okWide_int hu hv
      exact hd
    · rename_i hu
      obtain ⟨m, rfl⟩ := okWide_bool hu hv
      exact hd
    · rename_i hu
      obtain ⟨m, rfl⟩ := okWide_string hu hv
      exact hd
    · rename_i hu
      obtain ⟨a, n, c, rfl⟩ := okWide_slice hu hv
      exact hd
    · cases hc
  obtain ⟨n, hd⟩ := hd
  obtain ⟨x, x1, x2, x3⟩ := reads_ty 9 tid t n [v] _ h (by rw [h1]; rfl) hd
  exact ⟨x, x1, fun a ha => .dat (x3 0 a v ha rfl)⟩
theorem arg_ty {tid : TypeId} {v : Value} {d : DataW H} {p : List MemPlace} {b : Nat} : ∀ {a : Ty}, argB P tid a = true → Value.okWide P w .any b tid v → DataW.Trod enc P w base spare held tid v d p → ∃ x : a.den, a.wf x ∧ RelV w (Gh.none w.heap.size) (a.av false x) v
  | .agg t, h, hv, hd => by
    rw [argB, Bool.and_eq_true] at h
    obtain ⟨x, h1, h2⟩ := arg_agg h.1 h.2 hv hd
    exact ⟨x, h1, by rw [Ty.av]; exact h2⟩
  | .int k, h, hv, hd => by
    rw [argB, Bool.and_eq_true] at h
    obtain ⟨x, h1, h2⟩ := arg_cell h.1 h.2 rfl hv hd
    exact ⟨x, h1, h2 _ rfl⟩
  | .bool, h, hv, hd => by
    rw [argB, Bool.and_eq_true] at h
    obtain ⟨x, h1, h2⟩ := arg_cell h.1 h.2 rfl hv hd
    exact ⟨x, h1, h2 _ rfl⟩
  | .str, h, hv, hd => by
    rw [argB, Bool.and_eq_true] at h
    obtain ⟨x, h1, h2⟩ := arg_cell h.1 h.2 rfl hv hd
    exact ⟨x, h1, h2 _ rfl⟩
  | .list t, h, hv, hd => by
    rw [argB, Bool.and_eq_true] at h
    obtain ⟨x, h1, h2⟩ := arg_cell h.1 h.2 rfl hv hd
    exact ⟨x, h1, h2 _ rfl⟩
  | .unit, h, _, _ => by cases h
  | .pair _ _, h, _, _ => by cases h
  | .ptr _, h, _, _ => by cases h
/-- values one by one -/
inductive RelsV (w : World) (G : Gh) : List AV → List Value → Prop
  | nil : RelsV w G [] []
  | cons {a : AV} {v : Value} {l : List AV} {m : List Value} (h : RelV w G a v) (k : RelsV w G l m) : RelsV w G (a :: l) (v :: m)
theorem RelsV.args {G : Gh} {l : List AV} {m : List Value} (h : RelsV w G l m) : ArgsV w G l m.toArray := by
  induction h with
  | nil => exact ⟨rfl, fun i a v ha hv => by simp at ha⟩
  | cons h k ih =>
    refine ⟨by have := ih.size; simp at this ⊢; exact this, fun i a v ha hv => ?_⟩
    cases i with
    | zero => simp at ha hv; subst ha; subst hv; exact h
    | succ i => exact ih.rel i a v (by simpa using ha) (by simpa using hv)
theorem args_ty {b : Nat} : ∀ {ts : List TypeId} {σ : Ty} {vs : List Value} {ds : List (DataW H)} {ps : List MemPlace}, argsB P ts σ = true → (∀ (j : Nat) t v, ts[j]? = some t → vs[j]? = some v → Value.okWide P w .any b t v) → DataW.TrodAll enc P w base spare held ts vs ds ps → ∃ x : σ.den, σ.wf x ∧ RelsV w (Gh.none w.heap.size) (σ.avs false x) vs
  | [], σ, vs, ds, ps, h, _, hA => by
    obtain ⟨rfl, rfl, rfl⟩ := trodAll_nil hA
    have e := unB_ok h
    subst e
    exact ⟨(), trivial, .nil⟩
  | tid :: l, σ, vs, ds, ps, h, hv, hA => by
    obtain ⟨v, vs, d, ds, p, q, rfl, rfl, rfl, h0, r0⟩ := trodAll_cons hA
    obtain ⟨a, c, rfl, h'⟩ := prB_ok h
    clear h
    have h := h'
    clear h'
    rw [Bool.and_eq_true] at h
    obtain ⟨x, x1, x2⟩ := arg_ty h.1 (hv 0 tid v rfl rfl) h0
    obtain ⟨y, y1, y2⟩ := args_ty h.2 (fun j t u ht hu => hv (j + 1) t u (by simpa using ht) (by simpa using hu)) r0
    exact ⟨(x, y), ⟨x1, y1⟩, by rw [Ty.avs]; exact .cons x2 y2⟩
end
/-- a law whose residual program answers true at all data -/
theorem law_any {H : Type} {enc : TypeId × Value → H} {F : Nat} {ts : List TypeId} {σ : Ty} {f : Nat → σ.den → Option (Bool × Unit)} {nm : Nat} (hc : CtrOk Try.prog F ⟨σ, .pair .bool .unit, f, nm⟩) (hB : argsB Try.prog ts σ = true) (hp : ∀ x : σ.den, σ.wf x → f FU x = some (true, ())) {W : World} {b : Nat} {args : List Value} {ds : List (DataW H)} {ps : List MemPlace}
    (hv : ∀ (j : Nat) t v, ts[j]? = some t → args[j]? = some v → Value.okWide Try.prog W .any b t v) (hA : DataW.TrodAll enc Try.prog W 0 (fun _ => true) true ts args ds ps) :
    Calls Try.prog F args.toArray W fun e W' => e = .returned (.bool true) ∧ Below W.heap.size W W' := by
  obtain ⟨x, hx, hr⟩ := args_ty hB hv hA
  exact AF.yes (hc FU x (true, ()) (hp x hx)) hr.args
end Go.Proofs.Ytedjnjgnadbkaaa
/- RangecoderBytes: for every input this law returns true and leaves its arguments as they were. -/
namespace Go.Proofs.Ytedjnjgnadbkaaa
open Go.ChangeShapes Go.WideShapes Go.ChangeAt Go.RowKit

set_option maxRecDepth 100000 in
theorem rangecoderBytes_lifted (os : Os) (started : os.Started) (H : Type) (enc : TypeId × Value → H) :
    ReturnsInHanded {} Try.checked os 8 .any (Rows.rangecoderBytesSpec.pre6 enc Try.prog Try.f8 Rows.rangecoderBytesRow.domain false) (Rows.rangecoderBytesSpec.post enc Try.prog Try.f8 false true false false) := by
  refine law_lifted started (by kernel_rfl) Try.func8
    (ChangeSpec.witness6 (enc := enc) (C := Try.checked) false ⟨#[], #[.int .i64 0, .slice none 0 0, .slice none 0 0], []⟩ 8 (by kernel_rfl) (by kernel_rfl) (by kernel_rfl) (by kernel_rfl)) rfl rfl (by kernel_rfl)
    (fun ds h => by rw [Try.params8] at h; match ds, h with | [_, _, _], _ => rfl) ?_
  intro W base args ds ps hval hA hsz hlt
  rw [Try.params8] at hA hval
  exact law_any law_RangecoderBytes_ok (by kernel_rfl) (fun x _ => rangecoderBytes_s (Nat.le_of_eq FU_val.symm) x) (fun j t v ht hv => hval j t v (by simpa using ht) hv) hA

theorem rangecoderBytes_holds : Rows.RangecoderBytesSaid :=
  OpenClaim.holds_of_wide 8 Try.f8 rfl rfl rfl rfl rfl rfl rfl ⟨rfl, rfl, rfl, rfl, rfl⟩ rfl rfl rfl rfl rfl (by kernel_rfl) Try.func8 (by kernel_rfl)
    (of_decide_eq_true (by kernel_rfl)) (by unfold Func.isWrapper; first | (rw [if_pos (by decide +kernel)]; kernel_rfl) | (rw [if_neg (by decide +kernel)]; exact ⟨rfl, rfl⟩))
    (fun os started H enc _ => rangecoderBytes_lifted os started H enc)
end Go.Proofs.Ytedjnjgnadbkaaa
