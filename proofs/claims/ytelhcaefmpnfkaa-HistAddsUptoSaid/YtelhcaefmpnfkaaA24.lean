/- weirlaw30.HistAdds: part of the proof (a value semantics for the model's code, and the functions told by it). -/
import Derived.Test.YtelhcaefmpnfkaaA23
import Derived.Ground.SlsfProg
import Derived.Test.YtelhcaefmpnfkaaProg
set_option linter.unusedSimpArgs false
set_option linter.unusedVariables false
set_option linter.deprecated false
set_option linter.unusedSectionVars false
set_option linter.defProp false
section
set_option maxRecDepth 10000
set_option maxHeartbeats 4000000
namespace Go.Ve.H
open Go Go.Proofs Go.Ve
def refOk (r : Ref) : Bool := decide (-1 ≤ r.t) && decide (r.t ≤ 9999) && isName r.n
def asc : Option Ref → List Ref → Bool
 | _, [] => true
 | p, r :: l => refOk r && (match p with | none => true | some q => decide (cmpRef q r < 0)) && asc (some r) l
def okRefs (l : List Ref) : Bool := asc none l && decide ((l.length : Int) ≤ 48)
def szR (l : List Ref) : Prop := l.length ≤ 1099511627776 ∧ ∀ r ∈ l, r.n.size ≤ 1099511627776
def preR (l : List Ref) (i : Nat) : Option Ref := if i = 0 then none else some (l.getD (i - 1) noRef)
theorem asc_cons (p : Option Ref) (r : Ref) (l : List Ref) : asc p (r :: l) = (refOk r && (match p with | none => true | some q => decide (cmpRef q r < 0)) && asc (some r) l) := by cases p <;> rfl
theorem pBeforeE' (t t' : Int) (n n' : ByteArray) : pBeforeF [.agg [vI t, vS n], .agg [vI t', vS n']] = some ([inI64 t, inI64 t'], vI (cmpRef ⟨t, n⟩ ⟨t', n'⟩)) := rfl
theorem rBelowE' (t t' : Int) (n n' : ByteArray) : rBelowF [.agg [vI t, vS n], .agg [vI t', vS n']] = some ([-1 ≤ t, -1 ≤ t'], vT (decide (cmpRef ⟨t, n⟩ ⟨t', n'⟩ < 0))) := rfl
theorem asc_go {l : List Ref} {i : Nat} (h : i < l.length) : asc (preR l i) (l.drop i) = (refOk (l.getD i noRef) && (if i = 0 then true else decide (cmpRef (l.getD (i - 1) noRef) (l.getD i noRef) < 0)) && asc (preR l (i + 1)) (l.drop (i + 1))) := by
 have hn : l[i] = l.getD i noRef := by rw [List.getD_eq_getElem?_getD, List.getElem?_eq_getElem h]; rfl
 rw [List.drop_eq_getElem_cons h, hn, asc_cons]
 have h2 : preR l (i + 1) = some (l.getD i noRef) := by unfold preR; rw [if_neg (by omega)]; rfl
 rw [h2]
 unfold preR
 by_cases h0 : i = 0
 ·rw [if_pos h0, if_pos h0]
 ·rw [if_neg h0, if_neg h0]
def onr (g : List Ref → List Prop × PV) : List PV → Option (List Prop × PV)
 | [p] => match slD 2 refD p with
  | some c => some (g c)
  | none => none
 | _ => none
theorem onr_inv {g : List Ref → List Prop × PV} {args : List PV} {x : List Prop × PV} (h : onr g args = some x) : ∃ j o c, args = [.sl j (c.map refP) o] ∧ (j = 2 ∨ c = []) ∧ x = g c := by
 unfold onr at h
 split at h
 ·split at h
  ·rename_i c h1
   injection h with h
   obtain ⟨j, o, rfl, hj⟩ := slD_inv (fun _ _ => refD_inv) h1
   exact ⟨j, o, c, rfl, hj, h.symm⟩
  ·cases h
 ·cases h
theorem onr_P {g : List Ref → List Prop × PV} {j : Nat} {o : Bool} {c : List Ref} (hj : j = 2 ∨ c = []) : onr g [.sl j (c.map refP) o] = some (g c) := by
 simp only [onr, slD_of refD_P hj]
def rightRF := onr fun l => ([szR l], vT (okRefs l))
theorem rightRE {j : Nat} {o : Bool} {l : List Ref} (hj : j = 2 ∨ l = []) : rightRF [.sl j (l.map refP) o] = some ([szR l], vT (okRefs l)) := onr_P hj
def D23 : FuncId → Option CB
 | 22 => some (.fn pNameF)
 | 36 => some (.fn pBeforeF)
 | _ => none
theorem D23_ok : AllB E0 D23 := fun g c h => by
 unfold D23 at h
 split at h <;> simp at h <;> subst h
 ·exact pName_ok
 ·exact pBefore_ok
theorem rightR_ok : Sound Try.prog G0 23 (conT (CB.fn rightRF).toCon) := by
 refine fn_of D23_ok mixed true Try.func23 (by decide) rfl _ ?_
 intro args ps r hq hp
 obtain ⟨j, o, l, rfl, hj, hx⟩ := onr_inv hq
 obtain ⟨rfl, rfl⟩ := Prod.mk.inj hx
 have hz := hp (szR l) (by simp)
 have hz1 := hz.1
 refine ⟨by simp [norefL, PV.noref, nr_map nr_ref], ?_⟩
 simp only [awpBFn, Try.ntmps23, List.length_cons, List.length_nil, Nat.reduceAdd, Nat.reduceSub, List.replicate_succ, List.replicate_zero, List.cons_append, List.nil_append, List.map_cons, List.map_nil]
 simp -implicitDefEqProofs (maxSteps := 2000000) only [R0, R1, R2, R3, R4, R5, R6, R7, R8, R9, R10, R11, R12, R13, R14, R15, R16, PV.strip, stripL, PV.noref, ri, feedL, feeds, Nat.reduceBEq, Array.toList, ↓reduceIte, forall_const, implies_true, Nat.reduceEqDiff, reduceCtorEq, alP, bxP, bsP, ifP, quiet, riD, bs_l, PV.isRef, plainCell, norefL, PV.scalar, scalarL, PV.cells, PV.solid, PV.one, PV.free, freeL, fillP, splice, Nat.reduceAdd, Nat.reduceMul, Nat.reduceSub, Nat.reduceLeDiff, Nat.reduceLT, Int.reduceToNat, Int.reduceEq, Int.reduceLT, Int.reduceLE, Int.reduceNeg, E0_vc, vaN, PV.avoid, avoidL, Nat.reduceGT, Try.results23, Try.underlying22, sz39, zd39, ag39, zp39, fa39_0, ag3, sz3, zd3, fa39_1, ag9, sz9, zd9, D23, pNameE, pBeforeE, gd_ref, refP, List.length_map, RB0]
 refine loopB_by (fun i : Nat => [.sl j (l.map refP) false, .junk, .junk, .junk, .junk, .sl j (l.map refP) false, vI l.length, vI i, .junk, .junk, .junk, .junk, .junk, .junk, .junk, .junk, .junk, .junk, .junk, .junk, .junk, .junk, .junk, .junk, .junk, .junk, .junk, .junk, .junk, .junk, .junk, .junk, .junk, .junk, .junk, .junk, .junk, .junk, .junk, .junk, .junk, .junk, .junk, .junk]) (fun _ => []) (fun i => i ≤ l.length ∧ asc (preR l i) (l.drop i) = asc none l ∧ (0 < i → -1 ≤ (l.getD (i - 1) noRef).t ∧ (l.getD (i - 1) noRef).t ≤ 9999)) (fun i => l.length - i) 0 ?_ ?_ ?_
 ·simp only [RG0, RG1, Nat.reduceAdd, ltL, PV.lt, Blk.lt, Nat.reduceLT, Nat.reduceLeDiff, Wk_rfl, ltL_vI, wk_sl]
 ·exact ⟨by omega, rfl, fun h => by omega⟩
 intro i hP
 have h1 := hP.1; have h2 := hP.2.1; have h3 := hP.2.2
 have hi1 : ((i : Int) - 1).toNat = i - 1 := by omega
 simp -implicitDefEqProofs (maxSteps := 2000000) only [R0, R1, R2, R3, R4, R5, R6, R7, R8, R9, R10, R11, R12, R13, R14, R15, R16, PV.strip, stripL, PV.noref, ri, feedL, feeds, Nat.reduceBEq, Array.toList, ↓reduceIte, forall_const, implies_true, Nat.reduceEqDiff, reduceCtorEq, alP, bxP, bsP, ifP, quiet, riD, bs_l, PV.isRef, plainCell, norefL, PV.scalar, scalarL, PV.cells, PV.solid, PV.one, PV.free, freeL, fillP, splice, Nat.reduceAdd, Nat.reduceMul, Nat.reduceSub, Nat.reduceLeDiff, Nat.reduceLT, Int.reduceToNat, Int.reduceEq, Int.reduceLT, Int.reduceLE, Int.reduceNeg, E0_vc, vaN, PV.avoid, avoidL, Nat.reduceGT, Try.results23, Try.underlying22, sz39, zd39, ag39, zp39, fa39_0, ag3, sz3, zd3, fa39_1, ag9, sz9, zd9, D23, pNameE, pBeforeE, gd_ref, refP, List.length_map, Int.toNat_natCast, hi1, pBeforeE', RB0]
 refine ⟨fun h => ⟨?_, by omega, .inl (by decide), ?_⟩, fun h => ?_⟩
 ·exact hj.resolve_right (by rintro rfl; simp at h <;> omega)
 ·have hi : i < l.length := by omega
  have hgo := asc_go hi
  rw [h2] at hgo
  have hj2 : j = 2 := hj.resolve_right (by rintro rfl; simp at hi)
  have hmem : l.getD i noRef ∈ l := by
   rw [List.getD_eq_getElem?_getD, List.getElem?_eq_getElem hi]; exact List.getElem_mem hi
  generalize hR : l.getD i noRef = r at *
  generalize hQ : l.getD (i - 1) noRef = q at *
  refine ⟨fun _ => hz.2 _ hmem, fun h => by unfold inI64; omega, fun _ => hj2, fun h => by omega, fun h => ?_, fun h => ?_, fun a b => ⟨a, b⟩, fun hb => ?_, fun hb => ⟨by unfold inI64; omega, i + 1, ⟨by omega, ?_, fun _ => ?_⟩, by omega, ?_⟩⟩
  ·have := h3 (by omega)
   unfold inI64; omega
  ·obtain ⟨h, _⟩ := h
   simp only [Bool.or_eq_false_iff, Bool.and_eq_false_iff, decide_eq_false_iff_not, Bool.not_eq_eq_eq_not, Bool.not_false, decide_eq_true_eq] at h
   unfold inI64; omega
  ·have : asc none l = false := by
    rw [hgo]
    rcases hb with (hb | hb) | hb
    ·have : refOk r = false := by
      unfold refOk
      rcases hb with hb | hb
      ·rw [decide_eq_false (show ¬ -1 ≤ r.t by omega)]; rfl
      ·rw [decide_eq_false (show ¬ r.t ≤ 9999 by omega)]; simp
     rw [this]; rfl
    ·have : refOk r = false := by unfold refOk; rw [hb]; simp
     rw [this]; rfl
    ·have hb2 : ¬ cmpRef q r < 0 := Int.not_lt.2 hb.2
     rw [if_neg (by omega), decide_eq_false hb2]; simp
   rw [okRefs, this]; rfl
  ·simp only [Bool.or_eq_false_iff, Bool.and_eq_false_iff, decide_eq_false_iff_not, Bool.not_eq_eq_eq_not, Bool.not_false, decide_eq_true_eq] at hb
   have hr : refOk r = true := by
    unfold refOk
    rw [decide_eq_true (show -1 ≤ r.t by omega), decide_eq_true (show r.t ≤ 9999 by omega), hb.1.2]; rfl
   rw [hgo, hr]
   by_cases h0 : i = 0
   ·rw [if_pos h0]; simp
   ·have hb3 : ¬ 0 ≤ cmpRef q r := hb.2.resolve_left (fun h => h (by omega))
    rw [if_neg h0, decide_eq_true (show cmpRef q r < 0 by omega)]; simp
  ·simp only [Bool.or_eq_false_iff, Bool.and_eq_false_iff, decide_eq_false_iff_not, Bool.not_eq_eq_eq_not, Bool.not_false, decide_eq_true_eq] at hb
   rw [show i + 1 - 1 = i by omega, hR]; omega
  ·simp only [RG0, RG1, Nat.reduceAdd, ltL, PV.lt, Blk.lt, Nat.reduceLT, Nat.reduceLeDiff, Wk_rfl, ltL_vI, wk_sl] <;> omega
 ·have he : i = l.length := by omega
  rw [okRefs, ← h2, he, List.drop_eq_nil_of_le (Nat.le_refl _)]
  cases preR l l.length <;> simp [asc]
def okRows (n : Int) : Int → Option Fin → List Row → Bool
 | _, _, [] => true
 | left, p, r :: l => decide (1 ≤ r.c) && decide (r.c ≤ left) && finOk r.f && decide (r.f.n = n) && (match p with | none => true | some q => decide (cmpFin q r.f < 0)) && okRows n (left - r.c) (some r.f) l
theorem okRows_cons (n left : Int) (p : Option Fin) (r : Row) (l : List Row) : okRows n left p (r :: l) = (decide (1 ≤ r.c) && decide (r.c ≤ left) && finOk r.f && decide (r.f.n = n) && (match p with | none => true | some q => decide (cmpFin q r.f < 0)) && okRows n (left - r.c) (some r.f) l) := by cases p <;> rfl
def preF (l : List Row) (i : Nat) : Option Fin := if i = 0 then none else some (l.getD (i - 1) noRow).f
theorem okRows_go {n left : Int} {l : List Row} {i : Nat} (h : i < l.length) : okRows n left (preF l i) (l.drop i) = (decide (1 ≤ (l.getD i noRow).c) && decide ((l.getD i noRow).c ≤ left) && finOk (l.getD i noRow).f && decide ((l.getD i noRow).f.n = n) && (if i = 0 then true else decide (cmpFin (l.getD (i - 1) noRow).f (l.getD i noRow).f < 0)) && okRows n (left - (l.getD i noRow).c) (preF l (i + 1)) (l.drop (i + 1))) := by
 have hn : l[i] = l.getD i noRow := by rw [List.getD_eq_getElem?_getD, List.getElem?_eq_getElem h]; rfl
 rw [List.drop_eq_getElem_cons h, hn, okRows_cons]
 have h2 : preF l (i + 1) = some (l.getD i noRow).f := by unfold preF; rw [if_neg (by omega)]; rfl
 rw [h2]
 unfold preF
 by_cases h0 : i = 0
 ·rw [if_pos h0, if_pos h0]
 ·rw [if_neg h0, if_neg h0]
theorem tk48 (f : Fin) : List.take 48 (f.v.map vI) = f.v.map vI := List.take_of_length_le (by rw [List.length_map, f.hl]; exact Nat.le_refl _)
theorem len48 (f : Fin) : (f.v.map vI).length = 48 := by rw [List.length_map, f.hl]
theorem strip_vI : ∀ l : List Int, stripL (l.map vI) = l.map vI
 | [] => rfl
 | x :: l => by simp only [List.map_cons, stripL, strip_vI l]; rfl
theorem tk48a (f : Fin) (B : List PV) : List.take 48 (f.v.map vI ++ B) = f.v.map vI := List.take_left' (len48 f)
theorem hl48 (f : Fin) : f.v.length = 48 := f.hl
def rightWF := on1h fun h => ([h.rows.length ≤ 1099511627776, h.refs.length ≤ 1099511627776], vT (okRows h.refs.length 9223372036854775807 none h.rows))
def D24 : FuncId → Option CB
 | 17 => some (.fn pCompareF)
 | 37 => some (.fn pFCheckF)
 | _ => none
theorem D24_ok : AllB E0 D24 := fun g c h => by
 unfold D24 at h
 split at h <;> simp at h <;> subst h
 ·exact pCompare_ok
 ·exact pFCheck_ok
theorem rightW_ok : Sound Try.prog G0 24 (conT (CB.fn rightWF).toCon) := by
 refine fn_of D24_ok mixed true Try.func24 (by decide) rfl _ ?_
 intro args ps r hq hp
 obtain ⟨p, h, rfl, hh, hx⟩ := on1h_inv hq
 obtain ⟨rfl, rfl⟩ := Prod.mk.inj hx
 have hz1 := hp (h.rows.length ≤ 1099511627776) (by simp)
 have hz2 := hp (h.refs.length ≤ 1099511627776) (by simp)
 refine ⟨by simp only [norefL, nr_hist hh, Bool.and_self], ?_⟩
 simp only [awpBFn, Try.ntmps24, List.length_cons, List.length_nil, Nat.reduceAdd, Nat.reduceSub, List.replicate_succ, List.replicate_zero, List.cons_append, List.nil_append, List.map_cons, List.map_nil]
 obtain ⟨j1, o1, j2, o2, j3, o3, rfl, k1, k2, k3⟩ := hh
 simp -implicitDefEqProofs (maxSteps := 2000000) only [R0, R1, R2, R3, R4, R5, R6, R7, R8, R9, R10, R11, R12, R13, R14, R15, R16, PV.strip, stripL, PV.noref, ri, feedL, feeds, Nat.reduceBEq, Array.toList, ↓reduceIte, forall_const, implies_true, Nat.reduceEqDiff, reduceCtorEq, alP, bxP, bsP, ifP, quiet, riD, bs_l, PV.isRef, plainCell, norefL, PV.scalar, scalarL, PV.cells, PV.solid, PV.one, PV.free, freeL, fillP, splice, Nat.reduceAdd, Nat.reduceMul, Nat.reduceSub, Nat.reduceLeDiff, Nat.reduceLT, Int.reduceToNat, Int.reduceEq, Int.reduceLT, Int.reduceLE, Int.reduceNeg, E0_vc, vaN, PV.avoid, avoidL, Nat.reduceGT, Try.results24, fa27_3, ag23, sz23, zd23, Try.underlying23, sz44, zd44, ag44, zp44, fa44_0, ag2, sz2, zd2, fa44_1, ag42, sz42, fa42_0, ag3, sz3, zd3, fa27_2, ag22, sz22, zd22, Try.underlying22, D24, pCompareE, pFCheckE, gd_row, List.length_map, RB0]
 refine loopB_by (fun x : Nat × Int => [.junk, .ptr 0 0, .junk, vI x.2, .junk, .junk, .junk, .sl j2 (h.rows.map rowP) false, vI h.rows.length, vI x.1, .junk, .junk, .junk, .junk, .junk, .junk, .junk, .junk, .junk, .junk, .junk, .junk, .junk, .junk, .junk, .junk, .junk, .junk, .junk, .junk, .junk, .junk, .junk, .junk, .junk, .junk, .junk, .junk, .junk, .junk, .junk, .junk, .junk, .junk, .junk, .junk, .junk, .junk, .junk, .junk, .junk, .junk, .junk, .junk, .junk, .junk, .junk, .junk]) (fun _ => [.live [vS h.name, vI h.quant, .sl j1 (h.refs.map refP) false, .sl j2 (h.rows.map rowP) false, .sl j3 (h.cond.map nodeP) false]])
  (fun x => x.1 ≤ h.rows.length ∧ 0 ≤ x.2 ∧ x.2 ≤ 9223372036854775807 ∧ okRows h.refs.length x.2 (preF h.rows x.1) (h.rows.drop x.1) = okRows h.refs.length 9223372036854775807 none h.rows) (fun x => h.rows.length - x.1) (0, 9223372036854775807) ?_ ?_ ?_
 ·simp only [RG0, RG1, Nat.reduceAdd, ltL, PV.lt, Blk.lt, Nat.reduceLT, Nat.reduceLeDiff, Wk_rfl, ltL_vI, wk_sl]
 ·exact ⟨by simp only; omega, by simp only; omega, by simp only; omega, rfl⟩
 intro x hP
 obtain ⟨i, left⟩ := x
 have h1 : i ≤ h.rows.length := hP.1
 have h2 : 0 ≤ left := hP.2.1
 have h4 : left ≤ 9223372036854775807 := hP.2.2.1
 have h3 := hP.2.2.2
 simp only at h3
 have hi1 : ((i : Int) - 1).toNat = i - 1 := by omega
 simp -implicitDefEqProofs (maxSteps := 2000000) only [R0, R1, R2, R3, R4, R5, R6, R7, R8, R9, R10, R11, R12, R13, R14, R15, R16, PV.strip, stripL, PV.noref, ri, feedL, feeds, Nat.reduceBEq, Array.toList, ↓reduceIte, forall_const, implies_true, Nat.reduceEqDiff, reduceCtorEq, alP, bxP, bsP, ifP, quiet, riD, bs_l, PV.isRef, plainCell, norefL, PV.scalar, scalarL, PV.cells, PV.solid, PV.one, PV.free, freeL, fillP, splice, Nat.reduceAdd, Nat.reduceMul, Nat.reduceSub, Nat.reduceLeDiff, Nat.reduceLT, Int.reduceToNat, Int.reduceEq, Int.reduceLT, Int.reduceLE, Int.reduceNeg, E0_vc, vaN, PV.avoid, avoidL, Nat.reduceGT, Try.results24, fa27_3, ag23, sz23, zd23, Try.underlying23, sz44, zd44, ag44, zp44, fa44_0, ag2, sz2, zd2, fa44_1, ag42, sz42, fa42_0, ag3, sz3, zd3, fa27_2, ag22, sz22, zd22, Try.underlying22, D24, pCompareE, pFCheckE, gd_row, rowP, PV.cells, tk48, tk48a, len48, hl48, strip_vI, List.replicate_zero, List.append_nil, List.length_map, Int.toNat_natCast, hi1, List.drop_replicate, Nat.sub_self, RB0]
 refine ⟨fun hc => ⟨?_, by omega, ?_⟩, fun hc => ?_⟩
 ·exact k2.resolve_right (by intro e; rw [e] at hc; simp at hc <;> omega)
 ·have hi : i < h.rows.length := by omega
  have hgo := @okRows_go h.refs.length left h.rows i hi
  rw [h3] at hgo
  have hj2 : j2 = 50 := k2.resolve_right (by intro e; rw [e] at hi; simp at hi)
  generalize hR : h.rows.getD i noRow = r at *
  generalize hQ : h.rows.getD (i - 1) noRow = q at *
  have hfin : ∀ b : Bool, ((if b = true then (0 : Int) else 4) = 0) = (b = true) := fun b => by cases b <;> simp
  simp only [hfin, len48, List.length_map, hl48]
  refine ⟨fun hb => ?_, fun hb => ?_⟩
  ·have : okRows h.refs.length 9223372036854775807 none h.rows = false := by
    rw [hgo]
    rcases hb with ((hb | hb) | hb) | hb
    ·rw [decide_eq_false (show ¬ 1 ≤ r.c by omega)]; rfl
    ·rw [decide_eq_false (show ¬ r.c ≤ left by omega)]; simp
    ·rw [Bool.not_eq_true] at hb; rw [hb]; simp
    ·rw [decide_eq_false hb]; simp
   rw [this]
  ·simp only [Bool.or_eq_false_iff, Bool.and_eq_false_iff, decide_eq_false_iff_not, Bool.not_eq_eq_eq_not, Bool.not_false, decide_eq_true_eq] at hb
   refine ⟨.inl (by decide), fun _ => by unfold inI64; omega, fun _ => hj2, fun _ => by omega, fun hb2 => ?_, fun hb2 => ⟨by unfold inI64; omega, by unfold inI64; omega, (i + 1, left - r.c), ⟨by simp only; omega, by simp only; omega, by simp only; omega, ?_⟩, by simp only; omega, ?_⟩⟩
   ·have : okRows h.refs.length 9223372036854775807 none h.rows = false := by
     rw [hgo, if_neg (by omega), decide_eq_false (show ¬ cmpFin q.f r.f < 0 by omega)]; simp
    rw [this]
   ·simp only [Bool.or_eq_false_iff, Bool.and_eq_false_iff, decide_eq_false_iff_not, Bool.not_eq_eq_eq_not, Bool.not_false, decide_eq_true_eq] at hb2
    simp only
    rw [hgo, decide_eq_true (show 1 ≤ r.c by omega), decide_eq_true (show r.c ≤ left by omega), hb.1.2, decide_eq_true hb.2]
    by_cases h0 : i = 0
    ·rw [if_pos h0]; simp
    ·rw [if_neg h0, decide_eq_true (show cmpFin q.f r.f < 0 by omega)]; simp
   ·simp only [RG0, RG1, Nat.reduceAdd, ltL, PV.lt, Blk.lt, Nat.reduceLT, Nat.reduceLeDiff, Wk_rfl, ltL_vI, wk_sl] <;> omega
 ·have he : i = h.rows.length := by omega
  rw [← h3, he, List.drop_eq_nil_of_le (Nat.le_refl _)]
  cases preF h.rows h.rows.length <;> rfl
end Go.Ve.H
end
section
set_option maxRecDepth 10000
set_option maxHeartbeats 4000000
namespace Go.Ve.H
open Go Go.Proofs Go.Ve
def ckF := onc fun c => ([szC c], vI (checkC c))
def pCCheckF := ckF
def rCCheckF := ckF
theorem pCCheckE {j : Nat} {o : Bool} {c : List Node} (hj : j = 6 ∨ c = []) : pCCheckF [.sl j (c.map nodeP) o] = some ([szC c], vI (checkC c)) := onc_P hj
theorem rCCheckE {j : Nat} {o : Bool} {c : List Node} (hj : j = 6 ∨ c = []) : rCCheckF [.sl j (c.map nodeP) o] = some ([szC c], vI (checkC c)) := onc_P hj
def D38 : FuncId → Option CB
 | 51 => some (.fn pMakesF)
 | 52 => some (.fn pDeepGF)
 | _ => none
theorem D38_ok : AllB E0 D38 := fun g c h => by
 unfold D38 at h
 split at h <;> simp at h <;> subst h
 ·exact pMakes_ok
 ·exact pDeepG_ok
theorem makesC_ne {c : List Node} (h : makesC c = true) : 1 ≤ (c.length : Int) ∧ (c.length : Int) ≤ 1024 := by
 unfold makesC at h
 simp only [Bool.and_eq_true, decide_eq_true_eq] at h
 exact h.1
theorem checkC_no {c : List Node} (h : makesC c = false) : checkC c = 60 := by rw [checkC, h]; rfl
theorem checkC_yes {c : List Node} (h : makesC c = true) : checkC c = if 64 < depth c ((c.length : Int) - 1) then 2 else 0 := by rw [checkC, if_pos h]
theorem pCCheck_ok : Sound Try.prog G0 38 (conT (CB.fn pCCheckF).toCon) := by
 refine fn_of D38_ok mixed true Try.func38 (by decide) rfl _ ?_
 intro args ps r hq hp
 obtain ⟨j, o, c, rfl, hj, hx⟩ := onc_inv hq
 obtain ⟨rfl, rfl⟩ := Prod.mk.inj hx
 have hz := hp (szC c) (by simp)
 refine ⟨by simp [norefL, PV.noref, nr_map nr_node], ?_⟩
 simp only [awpBFn, Try.ntmps38, List.length_cons, List.length_nil, Nat.reduceAdd, Nat.reduceSub, List.replicate_succ, List.replicate_zero, List.cons_append, List.nil_append, List.map_cons, List.map_nil]
 have hE := fun o => pMakesE (o := o) hj
 cases hm : makesC c with
 | false =>
  simp -implicitDefEqProofs (maxSteps := 2000000) only [R0, R1, R2, R3, R4, R5, R6, R7, R8, R9, R10, R11, R12, R13, R14, R15, R16, PV.strip, stripL, PV.noref, ri, feedL, feeds, Nat.reduceBEq, Array.toList, ↓reduceIte, forall_const, implies_true, Nat.reduceEqDiff, reduceCtorEq, alP, bxP, bsP, ifP, quiet, riD, bs_l, PV.isRef, plainCell, norefL, PV.scalar, scalarL, PV.cells, PV.solid, PV.one, PV.free, freeL, fillP, splice, Nat.reduceAdd, Nat.reduceMul, Nat.reduceSub, Nat.reduceLeDiff, Nat.reduceLT, Int.reduceToNat, Int.reduceEq, Int.reduceLT, Int.reduceLE, Int.reduceNeg, E0_vc, vaN, PV.avoid, avoidL, Nat.reduceGT, Try.results38, Try.underlying25, D38, pMakesE, pDeepE, List.length_map, hE, hm, RB0]
  exact ⟨hz, by rw [checkC_no hm]⟩
 | true =>
  have hl := makesC_ne hm
  have hj6 : j = 6 := hj.resolve_right (by rintro rfl; simp at hl)
  subst hj6
  have hG := pDeepGE c
  simp -implicitDefEqProofs (maxSteps := 2000000) only [R0, R1, R2, R3, R4, R5, R6, R7, R8, R9, R10, R11, R12, R13, R14, R15, R16, PV.strip, stripL, PV.noref, ri, feedL, feeds, Nat.reduceBEq, Array.toList, ↓reduceIte, forall_const, implies_true, Nat.reduceEqDiff, reduceCtorEq, alP, bxP, bsP, ifP, quiet, riD, bs_l, PV.isRef, plainCell, norefL, PV.scalar, scalarL, PV.cells, PV.solid, PV.one, PV.free, freeL, fillP, splice, Nat.reduceAdd, Nat.reduceMul, Nat.reduceSub, Nat.reduceLeDiff, Nat.reduceLT, Int.reduceToNat, Int.reduceEq, Int.reduceLT, Int.reduceLE, Int.reduceNeg, E0_vc, vaN, PV.avoid, avoidL, Nat.reduceGT, Try.results38, Try.underlying25, D38, pMakesE, pDeepE, List.length_map, hE, hG, hm, RB0]
  refine ⟨hz, by unfold inI64; omega, makesC_wf hm, by omega, by omega, by omega, by omega, fun h => ?_, fun h => ?_⟩
  ·rw [checkC_yes hm, if_pos h]
  ·rw [checkC_yes hm, if_neg h]
def D30 : FuncId → Option CB
 | 45 => some (.fn rMakesF)
 | 46 => some (.fn rDeepGF)
 | _ => none
theorem D30_ok : AllB E0 D30 := fun g c h => by
 unfold D30 at h
 split at h <;> simp at h <;> subst h
 ·exact rMakes_ok
 ·exact rDeepG_ok
theorem rCCheck_ok : Sound Try.prog G0 30 (conT (CB.fn rCCheckF).toCon) := by
 refine fn_of D30_ok mixed true Try.func30 (by decide) rfl _ ?_
 intro args ps r hq hp
 obtain ⟨j, o, c, rfl, hj, hx⟩ := onc_inv hq
 obtain ⟨rfl, rfl⟩ := Prod.mk.inj hx
 have hz := hp (szC c) (by simp)
 refine ⟨by simp [norefL, PV.noref, nr_map nr_node], ?_⟩
 simp only [awpBFn, Try.ntmps30, List.length_cons, List.length_nil, Nat.reduceAdd, Nat.reduceSub, List.replicate_succ, List.replicate_zero, List.cons_append, List.nil_append, List.map_cons, List.map_nil]
 have hE := fun o => rMakesE (o := o) hj
 cases hm : makesC c with
 | false =>
  simp -implicitDefEqProofs (maxSteps := 2000000) only [R0, R1, R2, R3, R4, R5, R6, R7, R8, R9, R10, R11, R12, R13, R14, R15, R16, PV.strip, stripL, PV.noref, ri, feedL, feeds, Nat.reduceBEq, Array.toList, ↓reduceIte, forall_const, implies_true, Nat.reduceEqDiff, reduceCtorEq, alP, bxP, bsP, ifP, quiet, riD, bs_l, PV.isRef, plainCell, norefL, PV.scalar, scalarL, PV.cells, PV.solid, PV.one, PV.free, freeL, fillP, splice, Nat.reduceAdd, Nat.reduceMul, Nat.reduceSub, Nat.reduceLeDiff, Nat.reduceLT, Int.reduceToNat, Int.reduceEq, Int.reduceLT, Int.reduceLE, Int.reduceNeg, E0_vc, vaN, PV.avoid, avoidL, Nat.reduceGT, Try.results30, Try.underlying25, D30, rMakesE, rDeepE, List.length_map, hE, hm, RB0]
  exact ⟨hz, by rw [checkC_no hm]⟩
 | true =>
  have hl := makesC_ne hm
  have hj6 : j = 6 := hj.resolve_right (by rintro rfl; simp at hl)
  subst hj6
  have hG := rDeepGE c
  simp -implicitDefEqProofs (maxSteps := 2000000) only [R0, R1, R2, R3, R4, R5, R6, R7, R8, R9, R10, R11, R12, R13, R14, R15, R16, PV.strip, stripL, PV.noref, ri, feedL, feeds, Nat.reduceBEq, Array.toList, ↓reduceIte, forall_const, implies_true, Nat.reduceEqDiff, reduceCtorEq, alP, bxP, bsP, ifP, quiet, riD, bs_l, PV.isRef, plainCell, norefL, PV.scalar, scalarL, PV.cells, PV.solid, PV.one, PV.free, freeL, fillP, splice, Nat.reduceAdd, Nat.reduceMul, Nat.reduceSub, Nat.reduceLeDiff, Nat.reduceLT, Int.reduceToNat, Int.reduceEq, Int.reduceLT, Int.reduceLE, Int.reduceNeg, E0_vc, vaN, PV.avoid, avoidL, Nat.reduceGT, Try.results30, Try.underlying25, D30, rMakesE, rDeepE, List.length_map, hE, hG, hm, RB0]
  refine ⟨hz, by unfold inI64; omega, makesC_wf hm, by omega, by omega, by omega, by omega, fun h => ?_, fun h => ?_⟩
  ·rw [checkC_yes hm, if_pos h]
  ·rw [checkC_yes hm, if_neg h]
end Go.Ve.H
end
section
set_option maxRecDepth 10000
set_option maxHeartbeats 8000000
namespace Go.Ve.H
open Go Go.Proofs Go.Ve
def fewF : List PV → Option (List Prop × PV)
 | [.val (.int .i64 n)] => some ([], vT (decide (n ≤ 2000)))
 | _ => none
theorem fewE (n : Int) : fewF [.val (.int .i64 n)] = some ([], vT (decide (n ≤ 2000))) := rfl
theorem few_ok : Sound Try.prog G0 4 (conT (CB.fn fewF).toCon) := by
 refine fn_of DN_ok mixed true Try.func4 (by decide) rfl _ ?_
 intro args ps r hq hp
 unfold fewF at hq
 split at hq <;> simp only [reduceCtorEq, Option.some.injEq, Prod.mk.injEq] at hq
 obtain ⟨rfl, rfl⟩ := hq
 refine ⟨rfl, ?_⟩
 simp only [awpBFn, Try.ntmps4, List.length_cons, List.length_nil, Nat.reduceAdd, Nat.reduceSub, List.replicate_succ, List.replicate_zero, List.cons_append, List.nil_append, List.map_cons, List.map_nil]
 simp -implicitDefEqProofs (maxSteps := 2000000) only [R0, R1, R2, R3, R4, R5, R6, R7, R8, R9, R10, R11, R12, R13, R14, R15, R16, PV.strip, stripL, PV.noref, ri, feedL, feeds, Nat.reduceBEq, Array.toList, ↓reduceIte, forall_const, implies_true, Nat.reduceEqDiff, reduceCtorEq, alP, bxP, bsP, ifP, quiet, riD, bs_l, PV.isRef, plainCell, norefL, PV.scalar, scalarL, PV.cells, PV.solid, PV.one, PV.free, freeL, fillP, splice, Nat.reduceAdd, Nat.reduceMul, Nat.reduceSub, Nat.reduceLeDiff, Nat.reduceLT, Int.reduceToNat, Int.reduceEq, Int.reduceLT, Int.reduceLE, Int.reduceNeg, E0_vc, vaN, PV.avoid, avoidL, Nat.reduceGT, Try.results4]
def SameHist (a b : Hist) : Prop := a.name = b.name ∧ a.quant = b.quant ∧ a.refs = b.refs ∧ a.rows = b.rows ∧ a.cond = b.cond
instance (a b : Hist) : Decidable (SameHist a b) := by unfold SameHist; infer_instance
def lenH (a : Hist) : Prop := a.refs.length ≤ 1099511627776 ∧ a.rows.length ≤ 1099511627776 ∧ a.cond.length ≤ 1099511627776
def sameF := on2h fun a b => ([lenH a], vT (decide (SameHist a b)))
theorem sameE {n n' : ByteArray} {q q' : Int} {r r' : List Ref} {s s' : List Row} {c c' : List Node} {j1 j2 j3 l1 l2 l3 : Nat} {o1 o2 o3 p1 p2 p3 : Bool} (h1 : j1 = 2 ∨ r = []) (h2 : j2 = 50 ∨ s = []) (h3 : j3 = 6 ∨ c = []) (m1 : l1 = 2 ∨ r' = []) (m2 : l2 = 50 ∨ s' = []) (m3 : l3 = 6 ∨ c' = []) :
  sameF [.agg [vS n, vI q, .sl j1 (r.map refP) o1, .sl j2 (s.map rowP) o2, .sl j3 (c.map nodeP) o3], .agg [vS n', vI q', .sl l1 (r'.map refP) p1, .sl l2 (s'.map rowP) p2, .sl l3 (c'.map nodeP) p3]] = some ([lenH ⟨n, q, r, s, c⟩], vT (decide (SameHist ⟨n, q, r, s, c⟩ ⟨n', q', r', s', c'⟩))) := by
 simp only [sameF, on2h, histD_of _ _ _ h1 h2 h3, histD_of _ _ _ m1 m2 m3]
def W8 := And.intro @Try.results8 (And.intro @fa27_0 (And.intro @ag9 (And.intro @sz9 (And.intro @zd9 (And.intro @fa27_1 (And.intro @ag3 (And.intro @sz3 (And.intro @zd3 (And.intro @fa27_2 (And.intro @ag22 (And.intro @sz22 (And.intro @zd22 (And.intro @Try.underlying22 (And.intro @fa27_3 (And.intro @ag23 (And.intro @sz23 (And.intro @zd23 (And.intro @Try.underlying23 (And.intro @fa27_4 (And.intro @ag25 (And.intro @sz25 (And.intro @zd25 (And.intro @Try.underlying25 (And.intro @sz39 (And.intro @zd39 (And.intro @ag39 (And.intro @eqt39 (And.intro @bin39 (And.intro @bb_ag (And.intro @sz44 (And.intro @zd44 (And.intro @ag44 (And.intro @eqt44 (And.intro @bin44 (And.intro @sz46 (And.intro @zd46 (And.intro @ag46 (And.intro @eqt46 (@bin46)))))))))))))))))))))))))))))))))))))))
theorem same_ok : Sound Try.prog G0 8 (conT (CB.fn sameF).toCon) := by
 refine fn_of DN_ok mixed true Try.func8 (by decide) rfl _ ?_
 intro args ps r hq hp
 obtain ⟨p, q, a, b, rfl, ha, hb, hx⟩ := on2h_inv hq
 obtain ⟨rfl, rfl⟩ := Prod.mk.inj hx
 have hz := hp (lenH a) (by simp)
 obtain ⟨hz1, hz2, hz3⟩ := hz
 refine ⟨by simp only [norefL, nr_hist ha, nr_hist hb, Bool.and_self], ?_⟩
 simp only [awpBFn, Try.ntmps8, List.length_cons, List.length_nil, Nat.reduceAdd, Nat.reduceSub, List.replicate_succ, List.replicate_zero, List.cons_append, List.nil_append, List.map_cons, List.map_nil]
 obtain ⟨j1, o1, j2, o2, j3, o3, rfl, k1, k2, k3⟩ := ha
 obtain ⟨l1, p1, l2, p2, l3, p3, rfl, m1, m2, m3⟩ := hb
 have hno : ¬ SameHist a b → PV.val (Value.bool false) = vT (decide (SameHist a b)) := fun h => by rw [decide_eq_false h]
 simp -implicitDefEqProofs (maxSteps := 2000000) only [R0, R1, R2, R3, R4, R5, R6, R7, R8, R9, R10, R11, R12, R13, R14, R15, R16, PV.strip, stripL, PV.noref, ri, feedL, feeds, Nat.reduceBEq, Array.toList, ↓reduceIte, forall_const, implies_true, Nat.reduceEqDiff, reduceCtorEq, alP, bxP, bsP, ifP, quiet, riD, bs_l, PV.isRef, plainCell, norefL, PV.scalar, scalarL, PV.cells, PV.solid, PV.one, PV.free, freeL, fillP, splice, Nat.reduceAdd, Nat.reduceMul, Nat.reduceSub, Nat.reduceLeDiff, Nat.reduceLT, Int.reduceToNat, Int.reduceEq, Int.reduceLT, Int.reduceLE, Int.reduceNeg, E0_vc, vaN, PV.avoid, avoidL, Nat.reduceGT, W8, List.length_map, RB0]
 refine ⟨fun h => hno ?_, fun hall => ?_⟩
 ·rintro ⟨e1, e2, e3, e4, e5⟩
  rw [e1, e2, e3, e4, e5] at h
  simp at h
 simp only [Bool.or_eq_false_iff, decide_eq_false_iff_not, Bool.not_eq_eq_eq_not, Bool.not_false, decide_eq_true_eq] at hall
 obtain ⟨⟨⟨⟨hn, hqq⟩, hl1⟩, hl2⟩, hl3⟩ := hall
 refine loopB_by (fun i : Nat => [.junk, .junk, .ptr 0 0, .ptr 1 0, .junk, vI i, .junk, .junk, .junk, .junk, .junk, .junk, .junk, .junk, .junk, .junk, .junk, .junk, .junk, .junk, .junk, .junk, .junk, .junk, .junk, .junk, .junk, .junk, .junk, .junk, .junk, .junk, .junk, .junk, .junk, .junk, .junk, .junk, .junk, .junk, .junk, .junk, .junk, .junk, .junk, .junk, .junk, .junk, .junk, .junk, .junk, .junk, .junk, .junk, .junk, .junk, .junk, .junk, .junk, .junk, .junk, .junk, .junk, .junk, .junk, .junk, .junk, .junk, .junk, .junk, .junk, .junk, .junk, .junk, .junk, .junk, .junk, .junk, .junk, .junk, .junk, .junk, .junk, .junk, .junk, .junk, .junk, .junk, .junk, .junk, .junk, .junk, .junk, .junk, .junk, .junk, .junk, .junk, .junk, .junk, .junk]) (fun _ => [.live [vS a.name, vI a.quant, .sl j1 (a.refs.map refP) false, .sl j2 (a.rows.map rowP) false, .sl j3 (a.cond.map nodeP) false], .live [vS b.name, vI b.quant, .sl l1 (b.refs.map refP) false, .sl l2 (b.rows.map rowP) false, .sl l3 (b.cond.map nodeP) false]])
  (fun i => i ≤ a.refs.length ∧ (a.refs.drop i = b.refs.drop i) = (a.refs = b.refs)) (fun i => a.refs.length - i) 0 ?_ ?_ ?_
 ·simp only [RG0, RG1, Nat.reduceAdd, ltL, PV.lt, Blk.lt, Nat.reduceLT, Nat.reduceLeDiff, Wk_rfl, ltL_vI, wk_sl]
 ·exact ⟨by omega, rfl⟩
 intro i hP
 have h1 := hP.1; have h2 := hP.2
 simp -implicitDefEqProofs (maxSteps := 2000000) only [R0, R1, R2, R3, R4, R5, R6, R7, R8, R9, R10, R11, R12, R13, R14, R15, R16, PV.strip, stripL, PV.noref, ri, feedL, feeds, Nat.reduceBEq, Array.toList, ↓reduceIte, forall_const, implies_true, Nat.reduceEqDiff, reduceCtorEq, alP, bxP, bsP, ifP, quiet, riD, bs_l, PV.isRef, plainCell, norefL, PV.scalar, scalarL, PV.cells, PV.solid, PV.one, PV.free, freeL, fillP, splice, Nat.reduceAdd, Nat.reduceMul, Nat.reduceSub, Nat.reduceLeDiff, Nat.reduceLT, Int.reduceToNat, Int.reduceEq, Int.reduceLT, Int.reduceLE, Int.reduceNeg, E0_vc, vaN, PV.avoid, avoidL, Nat.reduceGT, W8, gd_ref, refP, len48, hl48, tk48, strip_vI, PV.cells, Int.toNat_natCast, List.length_map, RB0]
 refine ⟨fun h => ?_, fun h => ?_⟩
 ·have hj1 : j1 = 2 := k1.resolve_right (by intro e; rw [e] at h; simp at h <;> omega)
  have hj2 : l1 = 2 := m1.resolve_right (by intro e; rw [e, List.length_nil] at hl1; omega)
  have hd := @drop_eq _ a.refs b.refs noRef i (by omega) (by omega)
  rw [h2] at hd
  refine ⟨.inl (by decide), hj1, by omega, hj2, by omega, fun hne => hno (fun hs => hne (hd.mp hs.2.2.1).1), fun he => ⟨by unfold inI64; omega, i + 1, ⟨by omega, ?_⟩, by omega, ?_⟩⟩
  ·rw [hd]; exact propext ⟨fun h => ⟨he, h⟩, fun h => h.2⟩
  ·simp only [RG0, RG1, Nat.reduceAdd, ltL, PV.lt, Blk.lt, Nat.reduceLT, Nat.reduceLeDiff, Wk_rfl, ltL_vI, wk_sl] <;> omega
 have er : a.refs = b.refs := by rw [← h2, List.drop_eq_nil_of_le (by omega), List.drop_eq_nil_of_le (by omega)]
 refine loopB_by (fun i : Nat => [.junk, .junk, .ptr 0 0, .ptr 1 0, .junk, .junk, vI i, .junk, .junk, .junk, .junk, .junk, .junk, .junk, .junk, .junk, .junk, .junk, .junk, .junk, .junk, .junk, .junk, .junk, .junk, .junk, .junk, .junk, .junk, .junk, .junk, .junk, .junk, .junk, .junk, .junk, .junk, .junk, .junk, .junk, .junk, .junk, .junk, .junk, .junk, .junk, .junk, .junk, .junk, .junk, .junk, .junk, .junk, .junk, .junk, .junk, .junk, .junk, .junk, .junk, .junk, .junk, .junk, .junk, .junk, .junk, .junk, .junk, .junk, .junk, .junk, .junk, .junk, .junk, .junk, .junk, .junk, .junk, .junk, .junk, .junk, .junk, .junk, .junk, .junk, .junk, .junk, .junk, .junk, .junk, .junk, .junk, .junk, .junk, .junk, .junk, .junk, .junk, .junk, .junk, .junk]) (fun _ => [.live [vS a.name, vI a.quant, .sl j1 (a.refs.map refP) false, .sl j2 (a.rows.map rowP) false, .sl j3 (a.cond.map nodeP) false], .live [vS b.name, vI b.quant, .sl l1 (b.refs.map refP) false, .sl l2 (b.rows.map rowP) false, .sl l3 (b.cond.map nodeP) false]])
  (fun i => i ≤ a.rows.length ∧ (a.rows.drop i = b.rows.drop i) = (a.rows = b.rows)) (fun i => a.rows.length - i) 0 ?_ ?_ ?_
 ·simp only [RG0, RG1, Nat.reduceAdd, ltL, PV.lt, Blk.lt, Nat.reduceLT, Nat.reduceLeDiff, Wk_rfl, ltL_vI, wk_sl]
 ·exact ⟨by omega, rfl⟩
 intro i hP
 have h1 := hP.1; have h2 := hP.2
 simp -implicitDefEqProofs (maxSteps := 2000000) only [R0, R1, R2, R3, R4, R5, R6, R7, R8, R9, R10, R11, R12, R13, R14, R15, R16, PV.strip, stripL, PV.noref, ri, feedL, feeds, Nat.reduceBEq, Array.toList, ↓reduceIte, forall_const, implies_true, Nat.reduceEqDiff, reduceCtorEq, alP, bxP, bsP, ifP, quiet, riD, bs_l, PV.isRef, plainCell, norefL, PV.scalar, scalarL, PV.cells, PV.solid, PV.one, PV.free, freeL, fillP, splice, Nat.reduceAdd, Nat.reduceMul, Nat.reduceSub, Nat.reduceLeDiff, Nat.reduceLT, Int.reduceToNat, Int.reduceEq, Int.reduceLT, Int.reduceLE, Int.reduceNeg, E0_vc, vaN, PV.avoid, avoidL, Nat.reduceGT, W8, gd_row, rowP, len48, hl48, tk48, strip_vI, PV.cells, Int.toNat_natCast, List.length_map, RB0]
 refine ⟨fun h => ?_, fun h => ?_⟩
 ·have hj1 : j2 = 50 := k2.resolve_right (by intro e; rw [e] at h; simp at h <;> omega)
  have hj2 : l2 = 50 := m2.resolve_right (by intro e; rw [e, List.length_nil] at hl2; omega)
  have hd := @drop_eq _ a.rows b.rows noRow i (by omega) (by omega)
  rw [h2] at hd
  refine ⟨.inl (by decide), hj1, by omega, hj2, by omega, fun hne => hno (fun hs => hne (hd.mp hs.2.2.2.1).1), fun he => ⟨by unfold inI64; omega, i + 1, ⟨by omega, ?_⟩, by omega, ?_⟩⟩
  ·rw [hd]; exact propext ⟨fun h => ⟨he, h⟩, fun h => h.2⟩
  ·simp only [RG0, RG1, Nat.reduceAdd, ltL, PV.lt, Blk.lt, Nat.reduceLT, Nat.reduceLeDiff, Wk_rfl, ltL_vI, wk_sl] <;> omega
 have ew : a.rows = b.rows := by rw [← h2, List.drop_eq_nil_of_le (by omega), List.drop_eq_nil_of_le (by omega)]
 refine loopB_by (fun i : Nat => [.junk, .junk, .ptr 0 0, .ptr 1 0, .junk, .junk, .junk, vI i, .junk, .junk, .junk, .junk, .junk, .junk, .junk, .junk, .junk, .junk, .junk, .junk, .junk, .junk, .junk, .junk, .junk, .junk, .junk, .junk, .junk, .junk, .junk, .junk, .junk, .junk, .junk, .junk, .junk, .junk, .junk, .junk, .junk, .junk, .junk, .junk, .junk, .junk, .junk, .junk, .junk, .junk, .junk, .junk, .junk, .junk, .junk, .junk, .junk, .junk, .junk, .junk, .junk, .junk, .junk, .junk, .junk, .junk, .junk, .junk, .junk, .junk, .junk, .junk, .junk, .junk, .junk, .junk, .junk, .junk, .junk, .junk, .junk, .junk, .junk, .junk, .junk, .junk, .junk, .junk, .junk, .junk, .junk, .junk, .junk, .junk, .junk, .junk, .junk, .junk, .junk, .junk, .junk]) (fun _ => [.live [vS a.name, vI a.quant, .sl j1 (a.refs.map refP) false, .sl j2 (a.rows.map rowP) false, .sl j3 (a.cond.map nodeP) false], .live [vS b.name, vI b.quant, .sl l1 (b.refs.map refP) false, .sl l2 (b.rows.map rowP) false, .sl l3 (b.cond.map nodeP) false]])
  (fun i => i ≤ a.cond.length ∧ (a.cond.drop i = b.cond.drop i) = (a.cond = b.cond)) (fun i => a.cond.length - i) 0 ?_ ?_ ?_
 ·simp only [RG0, RG1, Nat.reduceAdd, ltL, PV.lt, Blk.lt, Nat.reduceLT, Nat.reduceLeDiff, Wk_rfl, ltL_vI, wk_sl]
 ·exact ⟨by omega, rfl⟩
 intro i hP
 have h1 := hP.1; have h2 := hP.2
 simp -implicitDefEqProofs (maxSteps := 2000000) only [R0, R1, R2, R3, R4, R5, R6, R7, R8, R9, R10, R11, R12, R13, R14, R15, R16, PV.strip, stripL, PV.noref, ri, feedL, feeds, Nat.reduceBEq, Array.toList, ↓reduceIte, forall_const, implies_true, Nat.reduceEqDiff, reduceCtorEq, alP, bxP, bsP, ifP, quiet, riD, bs_l, PV.isRef, plainCell, norefL, PV.scalar, scalarL, PV.cells, PV.solid, PV.one, PV.free, freeL, fillP, splice, Nat.reduceAdd, Nat.reduceMul, Nat.reduceSub, Nat.reduceLeDiff, Nat.reduceLT, Int.reduceToNat, Int.reduceEq, Int.reduceLT, Int.reduceLE, Int.reduceNeg, E0_vc, vaN, PV.avoid, avoidL, Nat.reduceGT, W8, gd_node, nodeP, len48, hl48, tk48, strip_vI, PV.cells, Int.toNat_natCast, List.length_map, RB0]
 refine ⟨fun h => ?_, fun h => ?_⟩
 ·have hj1 : j3 = 6 := k3.resolve_right (by intro e; rw [e] at h; simp at h <;> omega)
  have hj2 : l3 = 6 := m3.resolve_right (by intro e; rw [e, List.length_nil] at hl3; omega)
  have hd := @drop_eq _ a.cond b.cond noNode i (by omega) (by omega)
  rw [h2] at hd
  refine ⟨.inl (by decide), hj1, by omega, hj2, by omega, fun hne => hno (fun hs => hne (hd.mp hs.2.2.2.2).1), fun he => ⟨by unfold inI64; omega, i + 1, ⟨by omega, ?_⟩, by omega, ?_⟩⟩
  ·rw [hd]; exact propext ⟨fun h => ⟨he, h⟩, fun h => h.2⟩
  ·simp only [RG0, RG1, Nat.reduceAdd, ltL, PV.lt, Blk.lt, Nat.reduceLT, Nat.reduceLeDiff, Wk_rfl, ltL_vI, wk_sl] <;> omega
 have ec : a.cond = b.cond := by rw [← h2, List.drop_eq_nil_of_le (by omega), List.drop_eq_nil_of_le (by omega)]
 have hyes : SameHist a b := ⟨hn, hqq, er, ew, ec⟩
 rw [decide_eq_true hyes]
end Go.Ve.H
end
section
set_option maxRecDepth 10000
set_option maxHeartbeats 8000000
namespace Go.Ve.H
open Go Go.Proofs Go.Ve
theorem free_vI : ∀ l : List Int, freeL (l.map vI) = true
 | [] => rfl
 | x :: l => by simp only [List.map_cons, freeL, free_vI l]; rfl
theorem avoid_ints (b : Nat) : ∀ l : List Int, avoidL b (l.map vI) = true
 | [] => rfl
 | x :: l => by simp only [List.map_cons, avoidL, avoid_ints b l]; rfl
theorem rgA : List.range 1 = [0] := rfl
def rowC (r : Row) : List PV := vI r.c :: vI r.f.n :: r.f.v.map vI
theorem rowC_len (r : Row) : (rowC r).length = 50 := by simp [rowC, r.f.hl]
def rows50 : List Row → List PV
 | [] => []
 | r :: l => rowC r ++ rows50 l
theorem rows50_len : ∀ l : List Row, (rows50 l).length = l.length * 50
 | [] => rfl
 | r :: l => by rw [rows50, List.length_append, rowC_len, rows50_len l, List.length_cons]; omega
theorem rows50_drop : ∀ (l : List Row) (i : Nat), (rows50 l).drop (i * 50) = rows50 (l.drop i)
 | l, 0 => by simp
 | [], i + 1 => by simp [rows50]
 | r :: l, i + 1 => by
  rw [rows50, List.drop_succ_cons, ← rows50_drop l i, show (i + 1) * 50 = 50 + i * 50 by omega, ← List.drop_drop, List.drop_left' (rowC_len r)]
theorem rows50_take : ∀ (l : List Row) (i : Nat), (rows50 l).take (i * 50) = rows50 (l.take i)
 | l, 0 => by simp [rows50]
 | [], i + 1 => by simp [rows50]
 | r :: l, i + 1 => by
  rw [rows50, List.take_succ_cons, rows50, ← rows50_take l i, show (i + 1) * 50 = 50 + i * 50 by omega, List.take_append, List.take_of_length_le (by rw [rowC_len]; omega), rowC_len, show 50 + i * 50 - 50 = i * 50 by omega]
theorem rows50_app : ∀ a b : List Row, rows50 (a ++ b) = rows50 a ++ rows50 b
 | [], b => rfl
 | r :: a, b => by rw [List.cons_append, rows50, rows50, rows50_app a b, List.append_assoc]
theorem strip_app : ∀ a b : List PV, stripL (a ++ b) = stripL a ++ stripL b
 | [], _ => rfl
 | x :: a, b => by simp only [List.cons_append, stripL, strip_app a b]
theorem rows50_strip : ∀ l : List Row, stripL (rows50 l) = rows50 l
 | [] => rfl
 | r :: l => by
  rw [rows50, strip_app, rows50_strip l]
  congr 1
  simp only [rowC, stripL, strip_vI]; rfl
theorem rows50_flat : ∀ l : List Row, stripL (List.flatMap PV.cells (l.map rowP)) = rows50 l
 | [] => rfl
 | r :: l => by
  rw [List.map_cons, List.flatMap_cons, strip_app, rows50_flat l, rows50]
  congr 1
  simp only [rowP, PV.cells, rowC, stripL, strip_vI]; rfl
theorem rows50_at {l : List Row} {i : Nat} (h : i < l.length) (B : List PV) (d : PV) : (rows50 l ++ B).getD (i * 50) d = vI (l.getD i noRow).c := by
 have h1 : i * 50 < (rows50 l).length := by rw [rows50_len]; omega
 have h2 : (rows50 l)[i * 50]? = ((rows50 l).drop (i * 50))[0]? := by rw [List.getElem?_drop]; rfl
 rw [List.getD_eq_getElem?_getD, List.getElem?_append_left h1, h2, rows50_drop, List.drop_eq_getElem_cons h, rows50]
 rw [List.getD_eq_getElem?_getD, List.getElem?_eq_getElem h]; rfl
theorem rows50_set {l : List Row} {i : Nat} (h : i < l.length) (B : List PV) (c : Int) : List.take (i * 50) (rows50 l ++ B) ++ [vI c] ++ List.drop (i * 50 + 1) (rows50 l ++ B) = rows50 (l.set i ⟨c, (l.getD i noRow).f⟩) ++ B := by
 have h1 : i * 50 + 1 ≤ (rows50 l).length := by rw [rows50_len]; omega
 have hn : l[i] = l.getD i noRow := by rw [List.getD_eq_getElem?_getD, List.getElem?_eq_getElem h]; rfl
 rw [List.take_append_of_le_length (by omega), rows50_take, List.drop_append_of_le_length h1, ← List.drop_drop, rows50_drop, List.drop_eq_getElem_cons h, hn, rows50]
 rw [List.set_eq_take_append_cons_drop, if_pos h, rows50_app, rows50]
 simp only [rowC, List.cons_append, List.drop_succ_cons, List.drop_zero, List.append_assoc, List.nil_append]
theorem rows50_chunks : ∀ l : List Row, chunks 50 (rows50 l) l.length = l.map rowP
 | [] => rfl
 | r :: l => by
  rw [List.length_cons, chunks, if_neg (by decide), rows50, List.take_left' (rowC_len r), List.drop_left' (rowC_len r), rows50_chunks l]; rfl
theorem rows50_plain : ∀ l : List Row, (rows50 l).all plainCell = true
 | [] => rfl
 | r :: l => by
  rw [rows50, List.all_append, rows50_plain l, Bool.and_true, List.all_eq_true]
  intro x hx
  simp only [rowC, List.mem_cons, List.mem_map] at hx
  rcases hx with rfl | rfl | ⟨n, _, rfl⟩ <;> rfl
theorem rows50_frz (M : List Blk) (d : Nat) : ∀ l : List Row, (rows50 l).map (frz M d) = rows50 l
 | [] => rfl
 | r :: l => by
  rw [rows50, List.map_append, rows50_frz M d l]
  congr 1
  simp only [rowC, List.map_cons, List.map_map, frz_v]
  congr 2
  exact List.map_congr_left fun x _ => frz_v M d _
theorem frz_rows {M : List Blk} {b cap : Nat} {l : List Row} {B : List PV} (h : M[b]? = some (.live (rows50 l ++ B))) : frz M 4 (.rs 50 b 0 l.length cap) = .sl 50 (l.map rowP) false := by
 show (if (PV.rs 50 b 0 l.length cap).noref = true then _ else frzC M (frz M 3) (.rs 50 b 0 l.length cap)) = _
 rw [if_neg (by simp [PV.noref])]
 show frzS 50 0 l.length (.rs 50 b 0 l.length cap) (frz M 3) M[b]? = _
 rw [h]
 have h1 : ((rows50 l ++ B).drop 0).take (l.length * 50) = rows50 l := by
  rw [List.drop_zero]; exact List.take_left' (rows50_len l)
 simp only [frzS, h1, rows50_frz, rows50_strip]
 rw [if_pos ⟨by decide, by rw [List.length_append, rows50_len]; omega, rows50_plain l⟩, rows50_chunks]
end Go.Ve.H
end
section
set_option maxRecDepth 10000
set_option maxHeartbeats 8000000
namespace Go.Ve.H
open Go Go.Proofs Go.Ve
def putK : List Row → Row → Nat
 | [], _ => 0
 | r :: l, x => if cmpFin r.f x.f < 0 then putK l x + 1 else 0
def putL (l : List Row) (x : Row) : List Row :=
 if putK l x < l.length ∧ (l.getD (putK l x) noRow).f = x.f then l.set (putK l x) ⟨(l.getD (putK l x) noRow).c + x.c, (l.getD (putK l x) noRow).f⟩
 else l.take (putK l x) ++ x :: l.drop (putK l x)
def putIs (l : List Row) (x : Row) : Bool := decide (putK l x < l.length ∧ (l.getD (putK l x) noRow).f = x.f)
def putF : List PV → Option (List Prop × PV)
 | [p, q] => match slD 50 rowD p, rowD q with
  | some l, some x => some ([l.length ≤ 100000, putK l x < l.length → inI64 ((l.getD (putK l x) noRow).c + x.c)], .sl 50 ((putL l x).map rowP) (!putIs l x))
  | _, _ => none
 | _ => none
theorem putF_inv {args : List PV} {x : List Prop × PV} (h : putF args = some x) : ∃ j o l r, args = [.sl j (l.map rowP) o, rowP r] ∧ (j = 50 ∨ l = []) ∧ x = ([l.length ≤ 100000, putK l r < l.length → inI64 ((l.getD (putK l r) noRow).c + r.c)], .sl 50 ((putL l r).map rowP) (!putIs l r)) := by
 unfold putF at h
 split at h
 ·split at h
  ·rename_i f k h1 h2
   injection h with h
   obtain ⟨j, o, rfl, hj⟩ := slD_inv (fun _ _ => rowD_inv) h1
   exact ⟨j, o, f, k, by rw [rowD_inv h2], hj, h.symm⟩
  ·cases h
 ·cases h
theorem putE {j : Nat} {o : Bool} {l : List Row} (hj : j = 50 ∨ l = []) (x : Row) : putF [.sl j (l.map rowP) o, .agg (vI x.c :: vI x.f.n :: x.f.v.map vI)] = some ([l.length ≤ 100000, putK l x < l.length → inI64 ((l.getD (putK l x) noRow).c + x.c)], .sl 50 ((putL l x).map rowP) (!putIs l x)) := by
 show (match slD 50 rowD (.sl j (l.map rowP) o), rowD (rowP x) with | some l, some x => some ([l.length ≤ 100000, putK l x < l.length → inI64 ((l.getD (putK l x) noRow).c + x.c)], PV.sl 50 ((putL l x).map rowP) (!putIs l x)) | _, _ => none) = _
 rw [slD_of rowD_P hj, rowD_P]
theorem putK_le : ∀ (l : List Row) (x : Row), putK l x ≤ l.length
 | [], _ => Nat.le_refl _
 | r :: l, x => by
  unfold putK
  have := putK_le l x
  split
  ·rw [List.length_cons]; omega
  ·omega
theorem putK_go {l : List Row} {x : Row} {i : Nat} (h : i < l.length) : putK (l.drop i) x = if cmpFin (l.getD i noRow).f x.f < 0 then putK (l.drop (i + 1)) x + 1 else 0 := by
 have hn : l[i] = l.getD i noRow := by rw [List.getD_eq_getElem?_getD, List.getElem?_eq_getElem h]; rfl
 rw [List.drop_eq_getElem_cons h, hn, putK]
theorem zOne44 : zOne Try.prog 44 = true := by kernel_rfl
def D21 : FuncId → Option CB
 | 33 => some (.fn rCompareF)
 | _ => none
theorem D21_ok : AllB E0 D21 := fun g c h => by
 unfold D21 at h
 split at h <;> simp at h <;> subst h
 ·exact rCompare_ok
def W21 := And.intro @Try.results21 (And.intro @Try.underlying23 (And.intro @sz44 (And.intro @zd44 (And.intro @fa44_1 (And.intro @ag42 (And.intro @sz42 (And.intro @eqt42 (And.intro @bin42 (And.intro @bb_ag (And.intro @zs44 (And.intro @by44 (And.intro @fa44_0 (And.intro @ag2 (And.intro @sz2 (And.intro @zd2 (And.intro @ag44 (@rCompareE)))))))))))))))))
theorem put_ok : Sound Try.prog G0 21 (conT (CB.fn putF).toCon) := by
 refine fn_frzV (fun _ => [38, 40]) D21_ok mixed true Try.func21 (by decide) rfl _ ?_
 intro args ps r hq hp
 obtain ⟨j, o, l, x, rfl, hj, hx⟩ := putF_inv hq
 obtain ⟨rfl, rfl⟩ := Prod.mk.inj hx
 have hl := hp (l.length ≤ 100000) (by simp)
 have hs := hp (putK l x < l.length → inI64 ((l.getD (putK l x) noRow).c + x.c)) (by simp)
 have hkl := putK_le l x
 have hroom : ∀ k : Nat, k ≤ 200002 → roomy k 400 = true := fun k hk => by unfold roomy; simp; omega
 have hav : Blk.avoid 1 (Blk.live (vI x.c :: vI x.f.n :: List.map vI x.f.v)) = true := by
  show avoidL 1 (vI x.c :: vI x.f.n :: List.map vI x.f.v) = true
  simp only [avoidL, avoid_ints]; rfl
 refine ⟨by simp [norefL, PV.noref, nr_map nr_row, nr_row], ?_⟩
 simp only [awpBFn, Try.ntmps21, List.length_cons, List.length_nil, Nat.reduceAdd, Nat.reduceSub, List.replicate_succ, List.replicate_zero, List.cons_append, List.nil_append, List.map_cons, List.map_nil]
 simp -implicitDefEqProofs (maxSteps := 2000000) only [R0, R1, R2, R3, R4, R5, R6, R7, R8, R9, R10, R11, R12, R13, R14, R15, R16, PV.strip, stripL, PV.noref, ri, feedL, feeds, Nat.reduceBEq, Array.toList, ↓reduceIte, forall_const, implies_true, Nat.reduceEqDiff, reduceCtorEq, alP, bxP, bsP, ifP, quiet, riD, bs_l, PV.isRef, plainCell, norefL, PV.scalar, scalarL, PV.cells, PV.solid, PV.one, PV.free, freeL, fillP, splice, Nat.reduceAdd, Nat.reduceMul, Nat.reduceSub, Nat.reduceLeDiff, Nat.reduceLT, Int.reduceToNat, Int.reduceEq, Int.reduceLT, Int.reduceLE, Int.reduceNeg, E0_vc, vaN, PV.avoid, avoidL, Nat.reduceGT, W21, D21, rowP, List.length_map, RB0]
 refine loopB_by (fun i : Nat => [.sl j (l.map rowP) false, .junk, .junk, .ptr 0 0, .junk, vI i, .junk, .junk, .junk, .junk, .junk, .junk, .junk, .junk, .junk, .junk, .junk, .junk, .junk, .junk, .junk, .junk, .junk, .junk, .junk, .junk, .junk, .junk, .junk, .junk, .junk, .junk, .junk, .junk, .junk, .junk, .junk, .junk, .junk, .junk, .junk, .junk, .junk, .junk, .junk, .junk, .junk, .junk, .junk, .junk, .junk, .junk, .junk, .junk, .junk, .junk, .junk, .junk, .junk, .junk, .junk, .junk, .junk, .junk, .junk, .junk]) (fun _ => [.live (vI x.c :: vI x.f.n :: x.f.v.map vI)]) (fun i => i ≤ l.length ∧ i + putK (l.drop i) x = putK l x) (fun i => l.length - i) 0 ?_ ?_ ?_
 ·simp only [RG0, RG1, Nat.reduceAdd, ltL, PV.lt, Blk.lt, Nat.reduceLT, Nat.reduceLeDiff, Wk_rfl, ltL_vI, wk_sl]
 ·exact ⟨by omega, by simp⟩
 intro i hP
 have h1 := hP.1; have h2 := hP.2
 by_cases hi : i < l.length
 ·have hi' : (i : Int) < l.length := by omega
  have hj50 : j = 50 := hj.resolve_right (by rintro rfl; simp at hi)
  subst hj50
  have hgo := @putK_go l x i hi
  rw [← h2, hgo] at hkl hs
  rw [hgo] at h2
  by_cases hcmp : cmpFin (l.getD i noRow).f x.f < 0
  ·rw [if_pos hcmp] at h2
   simp -implicitDefEqProofs (maxSteps := 2000000) only [R0, R1, R2, R3, R4, R5, R6, R7, R8, R9, R10, R11, R12, R13, R14, R15, R16, PV.strip, stripL, PV.noref, ri, feedL, feeds, Nat.reduceBEq, Array.toList, ↓reduceIte, forall_const, implies_true, Nat.reduceEqDiff, reduceCtorEq, alP, bxP, bsP, ifP, quiet, riD, bs_l, PV.isRef, plainCell, norefL, PV.scalar, scalarL, PV.cells, PV.solid, PV.one, PV.free, freeL, fillP, splice, Nat.reduceAdd, Nat.reduceMul, Nat.reduceSub, Nat.reduceLeDiff, Nat.reduceLT, Int.reduceToNat, Int.reduceEq, Int.reduceLT, Int.reduceLE, Int.reduceNeg, E0_vc, vaN, PV.avoid, avoidL, Nat.reduceGT, W21, D21, gd_row, rowP, len48, hl48, tk48, strip_vI, PV.cells, Int.toNat_natCast, List.length_map, rgA, free_vI, avoid_ints, cond_true, hi', hcmp, RB0]
   refine ⟨.inl (by decide), by omega, by unfold inI64; omega, i + 1, ⟨by omega, by omega⟩, by omega, ?_⟩
   simp only [RG0, RG1, Nat.reduceAdd, ltL, PV.lt, Blk.lt, Nat.reduceLT, Nat.reduceLeDiff, Wk_rfl, ltL_vI, wk_sl] <;> omega
  ·rw [if_neg hcmp] at h2 hs hkl
   have hk : putK l x = i := by omega
   have hs' := hs (by omega)
   simp only [Nat.add_zero] at hs'
   by_cases heq : (l.getD i noRow).f = x.f
   ·have hcx : ¬ cmpFin x.f x.f < 0 := by rw [← heq]; rw [heq] at hcmp ⊢; exact hcmp
    have hrd := fun (n : Nat) d => rows50_at hi (List.replicate (n * 50 - (rows50 l).length) .junk) d
    have hst := fun (n : Nat) c => rows50_set hi (List.replicate (n * 50 - (rows50 l).length) .junk) c
    simp -implicitDefEqProofs (maxSteps := 2000000) only [R0, R1, R2, R3, R4, R5, R6, R7, R8, R9, R10, R11, R12, R13, R14, R15, R16, PV.strip, stripL, PV.noref, ri, feedL, feeds, Nat.reduceBEq, Array.toList, ↓reduceIte, forall_const, implies_true, Nat.reduceEqDiff, reduceCtorEq, alP, bxP, bsP, ifP, quiet, riD, bs_l, PV.isRef, plainCell, norefL, PV.scalar, scalarL, PV.cells, PV.solid, PV.one, PV.free, freeL, fillP, splice, Nat.reduceAdd, Nat.reduceMul, Nat.reduceSub, Nat.reduceLeDiff, Nat.reduceLT, Int.reduceToNat, Int.reduceEq, Int.reduceLT, Int.reduceLE, Int.reduceNeg, E0_vc, vaN, PV.avoid, avoidL, Nat.reduceGT, W21, D21, gd_row, rowP, len48, hl48, tk48, strip_vI, PV.cells, Int.toNat_natCast, List.length_map, rgA, free_vI, avoid_ints, cond_true, hi', hcmp, heq, hcx, rows50_flat, padded, hrd, hst, RB0]
    have hlen : ∀ n : Nat, (rows50 l ++ List.replicate n PV.junk).length = l.length * 50 + n := fun n => by rw [List.length_append, rows50_len, List.length_replicate]
    refine ⟨.inl (by decide), by omega, .inl (by decide), by omega, rfl, zOne44, ⟨hav, rfl⟩, hroom _ (by omega), fun c hc => ⟨.inl (by decide), by omega, by rw [hlen]; omega, hs', by omega, by rw [hlen]; omega, ?_⟩⟩
    have hf := @frz_rows [Blk.live (vI x.c :: vI x.f.n :: List.map vI x.f.v), Blk.live (rows50 (l.set i { c := (l.getD i noRow).c + x.c, f := x.f }) ++ List.replicate (c * 50 - (rows50 l).length) PV.junk)] 1 c (l.set i { c := (l.getD i noRow).c + x.c, f := x.f }) _ rfl
    rw [List.length_set] at hf
    rw [hf]
    have h3 : putIs l x = true := by unfold putIs; rw [hk]; exact decide_eq_true ⟨hi, heq⟩
    have h4 : putL l x = l.set i { c := (l.getD i noRow).c + x.c, f := x.f } := by
     unfold putL; rw [hk, if_pos ⟨hi, heq⟩, heq]
    rw [h3, h4]; rfl
   ·simp -implicitDefEqProofs (maxSteps := 2000000) only [R0, R1, R2, R3, R4, R5, R6, R7, R8, R9, R10, R11, R12, R13, R14, R15, R16, PV.strip, stripL, PV.noref, ri, feedL, feeds, Nat.reduceBEq, Array.toList, ↓reduceIte, forall_const, implies_true, Nat.reduceEqDiff, reduceCtorEq, alP, bxP, bsP, ifP, quiet, riD, bs_l, PV.isRef, plainCell, norefL, PV.scalar, scalarL, PV.cells, PV.solid, PV.one, PV.free, freeL, fillP, splice, Nat.reduceAdd, Nat.reduceMul, Nat.reduceSub, Nat.reduceLeDiff, Nat.reduceLT, Int.reduceToNat, Int.reduceEq, Int.reduceLT, Int.reduceLE, Int.reduceNeg, E0_vc, vaN, PV.avoid, avoidL, Nat.reduceGT, W21, D21, gd_row, rowP, len48, hl48, tk48, strip_vI, PV.cells, Int.toNat_natCast, List.length_map, rgA, free_vI, avoid_ints, cond_true, hi', hcmp, heq, RB0]
    have hne : ¬ (putK l x < l.length ∧ (l.getD (putK l x) noRow).f = x.f) := by rw [hk]; exact fun h => heq h.2
    have hpi : putIs l x = false := by unfold putIs; exact decide_eq_false hne
    have hpl : putL l x = l.take i ++ x :: l.drop i := by unfold putL; rw [if_neg hne, hk]
    refine ⟨.inl (by decide), by omega, .inl (by decide), by omega, .inl (by decide), by omega, hroom _ (by simp; omega), hroom _ (by simp; omega), by omega, hroom _ (by simp; omega), ?_⟩
    have hcs : List.take i (List.map rowP l) ++ [PV.agg (vI x.c :: vI x.f.n :: List.map vI x.f.v)] ++ List.drop i (List.take l.length (List.map rowP l)) = (putL l x).map rowP := by
     rw [List.take_of_length_le (i := l.length) (by rw [List.length_map]; exact Nat.le_refl _), hpl, List.map_append, List.map_cons, List.map_take, List.map_drop, List.append_assoc]; rfl
    rw [hcs, hpi]
    exact frz_nr 3 (by simp [PV.noref, nr_map nr_row])
 ·have hi' : ¬ (i : Int) < l.length := by omega
  simp -implicitDefEqProofs (maxSteps := 2000000) only [R0, R1, R2, R3, R4, R5, R6, R7, R8, R9, R10, R11, R12, R13, R14, R15, R16, PV.strip, stripL, PV.noref, ri, feedL, feeds, Nat.reduceBEq, Array.toList, ↓reduceIte, forall_const, implies_true, Nat.reduceEqDiff, reduceCtorEq, alP, bxP, bsP, ifP, quiet, riD, bs_l, PV.isRef, plainCell, norefL, PV.scalar, scalarL, PV.cells, PV.solid, PV.one, PV.free, freeL, fillP, splice, Nat.reduceAdd, Nat.reduceMul, Nat.reduceSub, Nat.reduceLeDiff, Nat.reduceLT, Int.reduceToNat, Int.reduceEq, Int.reduceLT, Int.reduceLE, Int.reduceNeg, E0_vc, vaN, PV.avoid, avoidL, Nat.reduceGT, W21, D21, gd_row, rowP, len48, hl48, tk48, strip_vI, PV.cells, Int.toNat_natCast, List.length_map, rgA, free_vI, avoid_ints, cond_true, hi', RB0]
  have he : i = l.length := by omega
  have hk : putK l x = i := by
   have : putK (l.drop i) x = 0 := by rw [List.drop_eq_nil_of_le (by omega)]; rfl
   omega
  have hne : ¬ (putK l x < l.length ∧ (l.getD (putK l x) noRow).f = x.f) := by rw [hk]; exact fun h => hi h.1
  have hpi : putIs l x = false := by unfold putIs; exact decide_eq_false hne
  have hpl : putL l x = l.take i ++ x :: l.drop i := by unfold putL; rw [if_neg hne, hk]
  have hj2 : j = 50 ∨ List.map rowP l = [] := hj.imp id (fun e => by rw [e]; rfl)
  have hj3 : zOf j 50 = 50 ∨ List.map rowP l = [] := hj.imp (fun e => by rw [e]; rfl) (fun e => by rw [e]; rfl)
  refine ⟨.inl (by decide), .inl (by decide), .inl (by decide), hj2, by omega, hroom _ (by simp; omega), hj3.imp id (fun e => by rw [e]; simp), hroom _ (by simp; omega), hj2, by omega, hroom _ (by simp; omega), hj3.imp id (fun e => by rw [e]; simp), ?_⟩
  have hcs : List.take i (List.map rowP l) ++ [PV.agg (vI x.c :: vI x.f.n :: List.map vI x.f.v)] ++ List.drop i (List.take l.length (List.map rowP l)) = (putL l x).map rowP := by
   rw [List.take_of_length_le (i := l.length) (by rw [List.length_map]; exact Nat.le_refl _), hpl, List.map_append, List.map_cons, List.map_take, List.map_drop, List.append_assoc]; rfl
  rw [hcs, hpi]
  exact frz_nr 3 (by simp [PV.noref, nr_map nr_row])
end Go.Ve.H
end
section
set_option maxRecDepth 10000
set_option maxHeartbeats 8000000
namespace Go.Ve.H
open Go Go.Proofs Go.Ve
def endRef : Ref := ⟨-7, { data := #[] }⟩
def endRow : Row := ⟨-7, noFin⟩
def endNode : Node := ⟨-7, 0, 0, noRef, 0⟩
def copyP (h : Hist) : PV := .agg [vS h.name, vI h.quant, .slt 2 (h.refs.map refP) [refP endRef], .slt 50 (h.rows.map rowP) [rowP endRow], .slt 6 (h.cond.map nodeP) [nodeP endNode]]
def smallH (h : Hist) : Prop := h.refs.length ≤ 100000000 ∧ h.rows.length ≤ 100000000 ∧ h.cond.length ≤ 100000000
def copiedF := on1h fun h => ([smallH h], copyP h)
theorem tkl {α : Type} (e : α → PV) (l : List α) (x : PV) : List.take l.length (l.map e ++ [x]) = l.map e := List.take_left' (by rw [List.length_map])
theorem drl {α : Type} (e : α → PV) (l : List α) (x : PV) : List.drop l.length (l.map e ++ [x]) = [x] := List.drop_left' (by rw [List.length_map])
theorem zr50 : List.drop 1 (List.replicate 50 (PV.val (.int .i64 0))) = vI noFin.n :: noFin.v.map vI := rfl
theorem copied_ok : Sound Try.prog G0 5 (conT (CB.fn copiedF).toCon) := by
 refine fn_of DN_ok mixed true Try.func5 (by decide) rfl _ ?_
 intro args ps r hq hp
 obtain ⟨p, h, rfl, hh, hx⟩ := on1h_inv hq
 obtain ⟨rfl, rfl⟩ := Prod.mk.inj hx
 have hz := hp (smallH h) (by simp)
 refine ⟨by simp only [norefL, nr_hist hh, Bool.and_self], ?_⟩
 simp only [awpBFn, Try.ntmps5, List.length_cons, List.length_nil, Nat.reduceAdd, Nat.reduceSub, List.replicate_succ, List.replicate_zero, List.cons_append, List.nil_append, List.map_cons, List.map_nil]
 obtain ⟨j1, o1, j2, o2, j3, o3, rfl, k1, k2, k3⟩ := hh
 have hll := fun (A B : Blk) (cs : List PV) => @ld_live Try.prog 27 [A, .live cs, B] 1 0 cs rfl
 simp -implicitDefEqProofs (maxSteps := 2000000) only [R0, R1, R2, R3, R4, R5, R6, R7, R8, R9, R10, R11, R12, R13, R14, R15, R16, PV.strip, stripL, PV.noref, ri, feedL, feeds, Nat.reduceBEq, Array.toList, ↓reduceIte, forall_const, implies_true, Nat.reduceEqDiff, reduceCtorEq, alP, bxP, bsP, ifP, quiet, riD, bs_l, PV.isRef, plainCell, norefL, PV.scalar, scalarL, PV.cells, PV.solid, PV.one, PV.free, freeL, fillP, splice, Nat.reduceAdd, Nat.reduceMul, Nat.reduceSub, Nat.reduceLeDiff, Nat.reduceLT, Int.reduceToNat, Int.reduceEq, Int.reduceLT, Int.reduceLE, Int.reduceNeg, E0_vc, vaN, PV.avoid, avoidL, Nat.reduceGT, Try.results5, ld27, zp27, ag27, sz27, Try.underlying22, sz39, zs39, fa27_2, ag22, sz22, zd22, by39, bu39, zd39, Try.underlying23, sz44, zs44, fa27_3, ag23, sz23, zd23, by44, bu44, zd44, Try.underlying25, sz46, zs46, fa27_4, ag25, sz25, zd25, by46, bu46, zd46, List.length_map, rgA, Int.toNat_natCast, tkl, drl, zr50, strip_vI, free_vI, hl48, rb2, rc_s, lq_t, lq_f, hll, RB0]
 obtain ⟨z1, z2, z3⟩ := hz
 have hroom : ∀ k b : Nat, k ≤ 100000001 → b ≤ 400 → roomy k b = true := fun k b hk hb => by
  unfold roomy
  have h1 : k * (b + 1) ≤ 100000001 * 401 := Nat.mul_le_mul hk (by omega)
  exact decide_eq_true (by omega)
 refine ⟨.inl (by decide), hroom _ _ (by omega) (by omega), k1.imp id (fun e => by rw [e]; rfl), hroom _ _ (by omega) (by omega), by simp; omega, .inl (by decide), hroom _ _ (by omega) (by omega), k2.imp id (fun e => by rw [e]; rfl), hroom _ _ (by omega) (by omega), by simp; omega, .inl (by decide), hroom _ _ (by omega) (by omega), k3.imp id (fun e => by rw [e]; rfl), hroom _ _ (by omega) (by omega), by simp; omega, rfl, ?_⟩
 simp [copyP, PV.noref, norefL, norefL_eq, nr_ref, nr_row, nr_node]
theorem copiedE {n : ByteArray} {q : Int} {r : List Ref} {s : List Row} {c : List Node} {j1 j2 j3 : Nat} {o1 o2 o3 : Bool} (h1 : j1 = 2 ∨ r = []) (h2 : j2 = 50 ∨ s = []) (h3 : j3 = 6 ∨ c = []) :
  copiedF [.agg [vS n, vI q, .sl j1 (r.map refP) o1, .sl j2 (s.map rowP) o2, .sl j3 (c.map nodeP) o3]] = some ([smallH ⟨n, q, r, s, c⟩], copyP ⟨n, q, r, s, c⟩) := by
 simp only [copiedF, on1h, histD_of _ _ _ h1 h2 h3]
def copyD : PV → Option Hist
 | .agg [.val (.string n), .val (.int .i64 q), .slt 2 r r2, .slt 50 s s2, .slt 6 c c2] => match decL refD r, decL rowD s, decL nodeD c, decL refD r2, decL rowD s2, decL nodeD c2 with
  | some r, some s, some c, some [r2], some [s2], some [c2] => if r2 = endRef ∧ s2 = endRow ∧ c2 = endNode then some ⟨n, q, r, s, c⟩ else none
  | _, _, _, _, _, _ => none
 | _ => none
theorem copyD_P (h : Hist) : copyD (copyP h) = some h := by
 have e1 : decL refD [refP endRef] = some [endRef] := rfl
 have e2 : decL rowD [rowP endRow] = some [endRow] := decL_map rowD_P [endRow]
 have e3 : decL nodeD [nodeP endNode] = some [endNode] := rfl
 simp only [copyD, copyP, decL_map refD_P, decL_map rowD_P, decL_map nodeD_P, e1, e2, e3]
 rfl
theorem copyD_inv {p : PV} {h : Hist} (hd : copyD p = some h) : p = copyP h := by
 unfold copyD at hd
 split at hd
 ·split at hd
  ·rename_i h1 h2 h3 h4 h5 h6
   split at hd
   ·rename_i he
    injection hd with hd; subst hd
    obtain ⟨e1, e2, e3⟩ := he
    subst e1; subst e2; subst e3
    have a1 := decL_inv (fun _ _ => refD_inv) h1
    have a2 := decL_inv (fun _ _ => rowD_inv) h2
    have a3 := decL_inv (fun _ _ => nodeD_inv) h3
    have a4 := decL_inv (fun _ _ => refD_inv) h4
    have a5 := decL_inv (fun _ _ => rowD_inv) h5
    have a6 := decL_inv (fun _ _ => nodeD_inv) h6
    subst a1; subst a2; subst a3; subst a4; subst a5; subst a6
    rfl
   ·cases hd
  ·cases hd
 ·cases hd
end Go.Ve.H
end
section
set_option maxRecDepth 10000
set_option maxHeartbeats 8000000
namespace Go.Ve.H
open Go Go.Proofs Go.Ve
def sameTF : List PV → Option (List Prop × PV) := fun a => sameF (unsltL a)
theorem sameT_ok : Sound Try.prog G0 8 (conT (CB.fn sameTF).toCon) := same_ok.unslt
theorem sameTE (a : Hist) {n' : ByteArray} {q' : Int} {r' : List Ref} {s' : List Row} {c' : List Node} {l1 l2 l3 : Nat} {p1 p2 p3 : Bool} (m1 : l1 = 2 ∨ r' = []) (m2 : l2 = 50 ∨ s' = []) (m3 : l3 = 6 ∨ c' = []) (x y z : List PV) :
  sameTF [.agg [vS a.name, vI a.quant, .slt 2 (a.refs.map refP) x, .slt 50 (a.rows.map rowP) y, .slt 6 (a.cond.map nodeP) z], .agg [vS n', vI q', .sl l1 (r'.map refP) p1, .sl l2 (s'.map rowP) p2, .sl l3 (c'.map nodeP) p3]] = some ([lenH a], vT (decide (SameHist a ⟨n', q', r', s', c'⟩))) := by
 have h := @sameE a.name n' a.quant q' a.refs r' a.rows s' a.cond c' 2 50 6 l1 l2 l3 false false false p1 p2 p3 (.inl rfl) (.inl rfl) (.inl rfl) m1 m2 m3
 exact h
def keptF : List PV → Option (List Prop × PV)
 | [p, q] => match copyD p, histD q with
  | some a, some b => some ([lenH a, lenH b], vT (decide (SameHist a b)))
  | _, _ => none
 | _ => none
theorem keptF_inv {args : List PV} {x : List Prop × PV} (h : keptF args = some x) : ∃ q a b, args = [copyP a, q] ∧ IsH q b ∧ x = ([lenH a, lenH b], vT (decide (SameHist a b))) := by
 unfold keptF at h
 split at h
 ·split at h
  ·rename_i h1 h2
   injection h with h
   exact ⟨_, _, _, by rw [copyD_inv h1], histD_inv h2, h.symm⟩
  ·cases h
 ·cases h
theorem mp_ref (l : List Ref) : List.map refP l ++ [PV.agg [vI endRef.t, vS endRef.n]] = List.map refP (l ++ [endRef]) := by rw [List.map_append]; rfl
theorem mp_row (l : List Row) : List.map rowP l ++ [PV.agg (vI endRow.c :: vI endRow.f.n :: endRow.f.v.map vI)] = List.map rowP (l ++ [endRow]) := by rw [List.map_append]; rfl
theorem mp_node (l : List Node) : List.map nodeP l ++ [PV.agg [vI endNode.op, vI endNode.a, vI endNode.b, vI endNode.ref.t, vS endNode.ref.n, vI endNode.val]] = List.map nodeP (l ++ [endNode]) := by rw [List.map_append]; rfl
theorem tk_all {α : Type} {l m : List α} {e : α} (h : l = m) : List.take ((m.length : Int) + 1).toNat (l ++ [e]) = l ++ [e] := by
 subst h; exact List.take_of_length_le (by simp)
theorem gd_end {α : Type} {l m : List α} {e d : α} (h : l = m) : (l ++ [e]).getD m.length d = e := by
 subst h; simp [List.getD_eq_getElem?_getD]
def D10 : FuncId → Option CB
 | 8 => some (.fn sameTF)
 | _ => none
theorem D10_ok : AllB E0 D10 := fun g c h => by
 unfold D10 at h
 split at h <;> simp at h <;> subst h
 ·exact sameT_ok
theorem kept_ok : Sound Try.prog G0 10 (conT (CB.fn keptF).toCon) := by
 refine fn_of D10_ok mixed true Try.func10 (by decide) rfl _ ?_
 intro args ps r hq hp
 obtain ⟨q, a, b, rfl, hb, hx⟩ := keptF_inv hq
 obtain ⟨rfl, rfl⟩ := Prod.mk.inj hx
 have ha := hp (lenH a) (by simp)
 have hbl := hp (lenH b) (by simp)
 refine ⟨by simp [norefL, nr_hist hb, copyP, PV.noref, norefL_eq, nr_map nr_ref, nr_map nr_row, nr_map nr_node, nr_ref, nr_row, nr_node], ?_⟩
 simp only [awpBFn, Try.ntmps10, List.length_cons, List.length_nil, Nat.reduceAdd, Nat.reduceSub, List.replicate_succ, List.replicate_zero, List.cons_append, List.nil_append, List.map_cons, List.map_nil]
 obtain ⟨l1, p1, l2, p2, l3, p3, rfl, m1, m2, m3⟩ := hb
 have hE := fun o1 o2 o3 => sameTE a (n' := b.name) (q' := b.quant) (p1 := o1) (p2 := o2) (p3 := o3) m1 m2 m3
 simp only [copyP]
 simp -implicitDefEqProofs (maxSteps := 2000000) only [R0, R1, R2, R3, R4, R5, R6, R7, R8, R9, R10, R11, R12, R13, R14, R15, R16, PV.strip, stripL, PV.noref, ri, feedL, feeds, Nat.reduceBEq, Array.toList, ↓reduceIte, forall_const, implies_true, Nat.reduceEqDiff, reduceCtorEq, alP, bxP, bsP, ifP, quiet, riD, bs_l, PV.isRef, plainCell, norefL, PV.scalar, scalarL, PV.cells, PV.solid, PV.one, PV.free, freeL, fillP, splice, Nat.reduceAdd, Nat.reduceMul, Nat.reduceSub, Nat.reduceLeDiff, Nat.reduceLT, Int.reduceToNat, Int.reduceEq, Int.reduceLT, Int.reduceLE, Int.reduceNeg, E0_vc, vaN, PV.avoid, avoidL, Nat.reduceGT, Try.results10, ag27, sz27, fa27_2, ag22, sz22, zd22, Try.underlying22, sz39, zd39, fa39_0, ag3, sz3, zd3, fa27_3, ag23, sz23, zd23, Try.underlying23, sz44, zd44, fa44_0, ag2, sz2, zd2, fa27_4, ag25, sz25, zd25, Try.underlying25, sz46, zd46, fa46_0, D10, sameE, hE, gd_ref, gd_row, gd_node, refP, rowP, nodeP, mp_ref, mp_row, mp_node, ← List.map_take, ← List.map_drop, List.drop_zero, Int.toNat_natCast, List.length_map, len48, hl48, PV.cells, RB0]
 refine ⟨.inl (by decide), ?_⟩
 obtain ⟨b1, b2, b3⟩ := hbl
 by_cases hs : SameHist a b
 ·have er := hs.2.2.1
  have ew := hs.2.2.2.1
  have ec := hs.2.2.2.2
  rw [tk_all er, tk_all ew, tk_all ec, gd_end er, gd_end ew, gd_end ec]
  have n1 : (a.refs ++ [endRef]).length = b.refs.length + 1 := by rw [er]; simp
  have n2 : (a.rows ++ [endRow]).length = b.rows.length + 1 := by rw [ew]; simp
  have n3 : (a.cond ++ [endNode]).length = b.cond.length + 1 := by rw [ec]; simp
  rw [n1, n2, n3, er, ew, ec]
  refine ⟨ha, fun _ => by unfold inI64; omega, fun _ => by omega, fun _ => by omega, fun _ => by unfold inI64; omega, fun _ => by omega, fun _ => by omega, fun _ => by unfold inI64; omega, fun _ => by omega, fun _ => by omega, ?_⟩
  show vT (decide (SameHist a b) && true && true && true) = _
  simp only [Bool.and_true]
 ·refine ⟨ha, fun h => absurd h hs, fun h => absurd h hs, fun h => absurd h hs, fun h => absurd h.1 hs, fun h => absurd h.1 hs, fun h => absurd h.1 hs, fun h => absurd h.1.1 hs, fun h => absurd h.1.1 hs, fun h => absurd h.1.1 hs, ?_⟩
  show vT (decide (SameHist a b) && _ && _ && _) = _
  rw [decide_eq_false hs]; rfl
theorem keptE (a : Hist) {n' : ByteArray} {q' : Int} {r' : List Ref} {s' : List Row} {c' : List Node} {l1 l2 l3 : Nat} {p1 p2 p3 : Bool} (m1 : l1 = 2 ∨ r' = []) (m2 : l2 = 50 ∨ s' = []) (m3 : l3 = 6 ∨ c' = []) :
  keptF [copyP a, .agg [vS n', vI q', .sl l1 (r'.map refP) p1, .sl l2 (s'.map rowP) p2, .sl l3 (c'.map nodeP) p3]] = some ([lenH a, lenH ⟨n', q', r', s', c'⟩], vT (decide (SameHist a ⟨n', q', r', s', c'⟩))) := by
 simp only [keptF, copyD_P, histD_of _ _ _ m1 m2 m3]
end Go.Ve.H
end
section
set_option maxRecDepth 10000
set_option maxHeartbeats 8000000
namespace Go.Ve.H
open Go Go.Proofs Go.Ve
def refs2 : List Ref → List PV
 | [] => []
 | r :: l => vI r.t :: vS r.n :: refs2 l
theorem refs2_len : ∀ l : List Ref, (refs2 l).length = l.length * 2
 | [] => rfl
 | r :: l => by rw [refs2, List.length_cons, List.length_cons, refs2_len l, List.length_cons]; omega
theorem refs2_drop : ∀ (l : List Ref) (i : Nat), (refs2 l).drop (i * 2) = refs2 (l.drop i)
 | l, 0 => by simp
 | [], i + 1 => by simp [refs2]
 | r :: l, i + 1 => by
  rw [refs2, List.drop_succ_cons, ← refs2_drop l i, show (i + 1) * 2 = i * 2 + 1 + 1 by omega, List.drop_succ_cons, List.drop_succ_cons]
theorem refs2_take : ∀ (l : List Ref) (i : Nat), (refs2 l).take (i * 2) = refs2 (l.take i)
 | l, 0 => by simp [refs2]
 | [], i + 1 => by simp [refs2]
 | r :: l, i + 1 => by
  rw [refs2, List.take_succ_cons, refs2, ← refs2_take l i, show (i + 1) * 2 = i * 2 + 1 + 1 by omega, List.take_succ_cons, List.take_succ_cons]
theorem refs2_app : ∀ a b : List Ref, refs2 (a ++ b) = refs2 a ++ refs2 b
 | [], b => rfl
 | r :: a, b => by rw [List.cons_append, refs2, refs2, refs2_app a b]; rfl
theorem refs2_strip : ∀ l : List Ref, stripL (refs2 l) = refs2 l
 | [] => rfl
 | r :: l => by simp only [refs2, stripL, refs2_strip l]; rfl
theorem refs2_flat : ∀ l : List Ref, stripL (List.flatMap PV.cells (l.map refP)) = refs2 l
 | [] => rfl
 | r :: l => by
  rw [List.map_cons, List.flatMap_cons, strip_app, refs2_flat l, refs2]; rfl
theorem refs2_chunks : ∀ l : List Ref, chunks 2 (refs2 l) l.length = l.map refP
 | [] => rfl
 | r :: l => by
  rw [List.length_cons, chunks, if_neg (by decide), refs2]
  simp only [List.take_succ_cons, List.take_zero, List.drop_succ_cons, List.drop_zero, refs2_chunks l]; rfl
theorem refs2_plain : ∀ l : List Ref, (refs2 l).all plainCell = true
 | [] => rfl
 | r :: l => by simp only [refs2, List.all_cons, refs2_plain l]; rfl
theorem refs2_frz (M : List Blk) (d : Nat) : ∀ l : List Ref, (refs2 l).map (frz M d) = refs2 l
 | [] => rfl
 | r :: l => by simp only [refs2, List.map_cons, refs2_frz M d l, frz_v]
theorem refs2_avoid (b : Nat) : ∀ l : List Ref, avoidL b (refs2 l) = true
 | [] => rfl
 | r :: l => by simp only [refs2, avoidL, refs2_avoid b l]; rfl
def refC (l : List Ref) (cap : Nat) : List PV := padded (refs2 l) (cap * 2)
theorem refC_eq (l : List Ref) (cap : Nat) : refC l cap = refs2 l ++ List.replicate (cap * 2 - (refs2 l).length) .junk := rfl
theorem refC_len {l : List Ref} {cap : Nat} (h : l.length ≤ cap) : (refC l cap).length = cap * 2 := by
 rw [refC_eq, List.length_append, refs2_len, List.length_replicate]; omega
theorem refC_at {l : List Ref} {cap k : Nat} (h : k < l.length) : List.take 2 (List.drop (k * 2) (refC l cap)) = [vI (l.getD k noRef).t, vS (l.getD k noRef).n] := by
 have hn : l[k] = l.getD k noRef := by rw [List.getD_eq_getElem?_getD, List.getElem?_eq_getElem h]; rfl
 rw [refC_eq, List.drop_append_of_le_length (by rw [refs2_len]; omega), refs2_drop, List.drop_eq_getElem_cons h, hn, refs2]
 rfl
theorem refC_take {l : List Ref} {cap k : Nat} (h : k ≤ l.length) : List.take (k * 2) (refC l cap) = refs2 (l.take k) := by
 rw [refC_eq, List.take_append_of_le_length (by rw [refs2_len]; omega), refs2_take]
theorem refC_tail {l : List Ref} {cap k : Nat} (h : k ≤ l.length) : List.take ((l.length - k) * 2) (List.drop (k * 2) (refC l cap)) = refs2 (l.drop k) := by
 rw [refC_eq, List.drop_append_of_le_length (by rw [refs2_len]; omega), refs2_drop]
 exact List.take_left' (by rw [refs2_len, List.length_drop])
theorem refC_avoid (b : Nat) (l : List Ref) (cap : Nat) : avoidL b (refC l cap) = true := by
 rw [refC_eq, avoidL_app, refs2_avoid, avoidL_junk]; rfl
theorem frz_refs (d : Nat) {M : List Blk} {b cap : Nat} {l : List Ref} {B : List PV} (h : M[b]? = some (.live (refs2 l ++ B))) : frz M (d + 1) (.rs 2 b 0 l.length cap) = .sl 2 (l.map refP) false := by
 show (if (PV.rs 2 b 0 l.length cap).noref = true then _ else frzC M (frz M d) (.rs 2 b 0 l.length cap)) = _
 rw [if_neg (by simp [PV.noref])]
 show frzS 2 0 l.length (.rs 2 b 0 l.length cap) (frz M d) M[b]? = _
 rw [h]
 have h1 : ((refs2 l ++ B).drop 0).take (l.length * 2) = refs2 l := by
  rw [List.drop_zero]; exact List.take_left' (refs2_len l)
 simp only [frzS, h1, refs2_frz, refs2_strip]
 rw [if_pos ⟨by decide, by rw [List.length_append, refs2_len]; omega, refs2_plain l⟩, refs2_chunks]
theorem frz_pair {M : List Blk} {b cap : Nat} {l : List Ref} {B : List PV} (h : M[b]? = some (.live (refs2 l ++ B))) (e : Int) : frz M 4 (.tuple [.rs 2 b 0 l.length cap, vI e]) = .tuple [.sl 2 (l.map refP) false, vI e] := by
 show (if (PV.tuple [.rs 2 b 0 l.length cap, vI e]).noref = true then _ else frzC M (frz M 3) (.tuple [.rs 2 b 0 l.length cap, vI e])) = _
 rw [if_neg (by simp [PV.noref, norefL])]
 show PV.tuple [frz M 3 (.rs 2 b 0 l.length cap), frz M 3 (vI e)] = _
 rw [frz_refs 2 h, frz_v]
def insR : List Ref → Ref → List Ref
 | [], r => [r]
 | q :: l, r => if cmpRef q r < 0 then q :: insR l r else if q = r then q :: l else r :: q :: l
def refsD : List Node → List Ref → List Ref
 | [], l => l
 | n :: c, l => refsD c (if n.op = 2 then insR l n.ref else l)
theorem insR_at : ∀ {l : List Ref} {k : Nat} {r : Ref}, k ≤ l.length → (∀ j, j < k → cmpRef (l.getD j noRef) r < 0) → (k < l.length → ¬ cmpRef (l.getD k noRef) r < 0) → insR l r = if k < l.length ∧ l.getD k noRef = r then l else l.take k ++ r :: l.drop k
 | [], k, r, h1, _, _ => by
  have : k = 0 := by simpa using h1
  subst this
  rfl
 | q :: l, 0, r, _, _, h3 => by
  have h : ¬ cmpRef q r < 0 := h3 (by simp)
  rw [insR, if_neg h]
  by_cases he : q = r
  ·rw [if_pos he, if_pos ⟨by simp, he⟩]
  ·rw [if_neg he, if_neg (fun h => he h.2)]; rfl
 | q :: l, k + 1, r, h1, h2, h3 => by
  have h : cmpRef q r < 0 := h2 0 (by omega)
  rw [insR, if_pos h, insR_at (l := l) (k := k) (r := r) (by simpa using h1) (fun j hj => h2 (j + 1) (by omega)) (fun hk => h3 (by simpa using hk))]
  simp only [List.length_cons, Nat.add_lt_add_iff_right, List.getD_cons_succ]
  by_cases hc : k < l.length ∧ l.getD k noRef = r
  ·rw [if_pos hc, if_pos hc]
  ·rw [if_neg hc, if_neg hc]; rfl
theorem refsD_go {c : List Node} {i : Nat} (h : i < c.length) (l : List Ref) : refsD (c.drop i) l = refsD (c.drop (i + 1)) (if (c.getD i noNode).op = 2 then insR l (c.getD i noNode).ref else l) := by
 have hn : c[i] = c.getD i noNode := by rw [List.getD_eq_getElem?_getD, List.getElem?_eq_getElem h]; rfl
 rw [List.drop_eq_getElem_cons h, hn, refsD]
theorem insR_len : ∀ (l : List Ref) (r : Ref), (insR l r).length ≤ l.length + 1
 | [], r => Nat.le_refl _
 | q :: l, r => by
  unfold insR
  have := insR_len l r
  split
  ·simp only [List.length_cons]; omega
  ·split
   ·simp
   ·simp
theorem insR_mem : ∀ (l : List Ref) (r x : Ref), x ∈ insR l r ↔ x = r ∨ x ∈ l
 | [], r, x => by simp [insR]
 | q :: l, r, x => by
  unfold insR
  split
  ·simp only [List.mem_cons, insR_mem l r x]
   constructor
   ·rintro (h | h | h)
    ·exact .inr (.inl h)
    ·exact .inl h
    ·exact .inr (.inr h)
   ·rintro (h | h | h)
    ·exact .inr (.inl h)
    ·exact .inl h
    ·exact .inr (.inr h)
  ·split
   ·rename_i h1 h2
    subst h2
    simp only [List.mem_cons]
    constructor
    ·rintro (h | h)
     ·exact .inl h
     ·exact .inr (.inr h)
    ·rintro (h | h | h)
     ·exact .inl h
     ·exact .inl h
     ·exact .inr h
   ·simp only [List.mem_cons]
theorem runS_fields : ∀ (c : List Node) (i : Int) (st : List Int), runS i c st = true → ∀ n ∈ c, fieldsOk n = true
 | [], _, _, _, n, hn => by simp at hn
 | m :: c, i, st, h, n, hn => by
  unfold runS at h
  simp only [Bool.and_eq_true] at h
  rcases List.mem_cons.1 hn with rfl | hn
  ·exact h.1
  ·obtain ⟨_, h2⟩ := h
   split at h2
   ·exact runS_fields c _ _ h2 n hn
   ·cases h2
theorem makesC_fields {c : List Node} (h : makesC c = true) : ∀ n ∈ c, fieldsOk n = true := by
 unfold makesC at h
 simp only [Bool.and_eq_true] at h
 exact runS_fields c 0 [] h.2
theorem fieldsOk_ref {n : Node} (h : fieldsOk n = true) (h2 : n.op = 2) : -1 ≤ n.ref.t ∧ n.ref.t ≤ 9999 := by
 unfold fieldsOk at h
 rw [if_pos h2] at h
 simp only [Bool.and_eq_true, decide_eq_true_eq] at h
 exact ⟨h.1.1.2, h.1.2⟩
theorem checkC_makes {c : List Node} (h : checkC c = 0) : makesC c = true := by
 cases hm : makesC c with
 | true => rfl
 | false => rw [checkC, hm] at h; simp at h
end Go.Ve.H
end
section
set_option maxRecDepth 10000
set_option maxHeartbeats 20000000
namespace Go.Ve.H
open Go Go.Proofs Go.Ve
def ansR (l : List Ref) : PV := if l = [] then .sl 0 [] false else .sl 2 (l.map refP) false
def refsF (g : List Node → List Ref) := onc fun c => ([szC c], .tuple (if checkC c = 0 then [ansR (g c), vI 0] else [.sl 0 [] true, vI (checkC c)]))
def rRefsF := refsF fun c => refsD c []
theorem rRefsE {j : Nat} {o : Bool} {c : List Node} (hj : j = 6 ∨ c = []) : rRefsF [.sl j (c.map nodeP) o] = some ([szC c], .tuple (if checkC c = 0 then [ansR (refsD c []), vI 0] else [.sl 0 [] true, vI (checkC c)])) := onc_P hj
structure RfS where
 i : Nat
 l : List Ref
 cap : Nat
def slotR (l : List Ref) (cap : Nat) : PV := match l with
 | [] => .sl 0 [] true
 | _ :: _ => .rs 2 0 0 l.length cap
def blkR (l : List Ref) (cap : Nat) : List Blk := match l with
 | [] => []
 | _ :: _ => [.live (refC l cap)]
theorem slotR_0 (cap : Nat) : slotR [] cap = .sl 0 [] true := rfl
theorem slotR_1 {l : List Ref} (h : ¬ l = []) (cap : Nat) : slotR l cap = .rs 2 0 0 l.length cap := by
 cases l with
 | nil => exact absurd rfl h
 | cons a l => rfl
theorem blkR_0 (cap : Nat) : blkR [] cap = [] := rfl
theorem blkR_1 {l : List Ref} (h : ¬ l = []) (cap : Nat) : blkR l cap = [.live (refC l cap)] := by
 cases l with
 | nil => exact absurd rfl h
 | cons a l => rfl
def totF (F : List PV → Option (List Prop × PV)) (args : List PV) : Option (List Prop × PV) := match F args with
 | some x => some x
 | none => some ([False], .val (.bool false))
theorem totF_ok {F : List PV → Option (List Prop × PV)} {g : FuncId} (h : Sound Try.prog G0 g (conT (CB.fn F).toCon)) : Sound Try.prog G0 g (conT (CB.fn (totF F)).toCon) := by
 refine h.weaken fun args blks K => ?_
 rintro ⟨r, ⟨ps, h1, h2⟩, hk⟩
 refine ⟨r, ⟨ps, ?_, h2⟩, hk⟩
 unfold totF at h1
 split at h1
 ·rename_i x hx; rw [hx]; exact h1
 ·simp only [Option.some.injEq, Prod.mk.injEq] at h1
  obtain ⟨rfl, _⟩ := h1
  exact (h2 False (by simp)).elim
theorem rBelowX (r x : Ref) : totF rBelowF [.agg [vI r.t, vS r.n], .agg [vI x.t, vS x.n]] = some ([-1 ≤ r.t, -1 ≤ x.t], vT (decide (cmpRef r x < 0))) := rfl
theorem rBelowT0 (x : Ref) : totF rBelowF [.agg [vI 0, .val (.string { data := #[] })], .agg [vI x.t, vS x.n]] = some ([-1 ≤ (0 : Int), -1 ≤ x.t], vT (decide (cmpRef ⟨0, { data := #[] }⟩ x < 0))) := rfl
theorem rBelowTJ (l : List Ref) (cap : Nat) (x : Ref) : totF rBelowF [.agg (stripL (stripL (List.take 2 (List.drop (l.length * 2) (refC l cap))))), .agg [vI x.t, vS x.n]] = some ([False], .val (.bool false)) := by
 have h : List.drop (l.length * 2) (refC l cap) = List.replicate (cap * 2 - (refs2 l).length) .junk := by
  rw [refC_eq]; exact List.drop_left' (refs2_len l)
 rw [h]
 generalize cap * 2 - (refs2 l).length = m
 cases m with
 | zero => rfl
 | succ m => cases m with
  | zero => rfl
  | succ m => rfl
theorem eqi39_0 (a : Int) (n : ByteArray) : eqI Try.prog 9 39 (.agg []) (.agg [vI a, vS n]) = none := by kernel_rfl
theorem eqi39_1 (a : Int) (n : ByteArray) : eqI Try.prog 9 39 (.agg [.junk]) (.agg [vI a, vS n]) = none := by kernel_rfl
theorem eqi39_2 (a : Int) (n : ByteArray) : eqI Try.prog 9 39 (.agg [.junk, .junk]) (.agg [vI a, vS n]) = none := by kernel_rfl
theorem eqJ (l : List Ref) (cap : Nat) (x : Ref) : aggEq Try.prog .neq 39 (.agg (stripL (List.take 2 (List.drop (l.length * 2) (refC l cap))))) (.agg [vI x.t, vS x.n]) = none := by
 have h : List.drop (l.length * 2) (refC l cap) = List.replicate (cap * 2 - (refs2 l).length) .junk := by
  rw [refC_eq]; exact List.drop_left' (refs2_len l)
 rw [h]
 generalize cap * 2 - (refs2 l).length = m
 have e : stripL (List.take 2 (List.replicate m PV.junk)) = [] ∨ stripL (List.take 2 (List.replicate m PV.junk)) = [.junk] ∨ stripL (List.take 2 (List.replicate m PV.junk)) = [.junk, .junk] := by
  cases m with
  | zero => exact .inl rfl
  | succ m => cases m with
   | zero => exact .inr (.inl rfl)
   | succ m => exact .inr (.inr rfl)
 rcases e with e | e | e <;> rw [e] <;> simp only [aggEq, eqg39, if_true, eqi39_0, eqi39_1, eqi39_2, Option.map_none]
theorem mT (b : Bool) (q : List PV) : mrg true (.val (.bool b)) (.tuple q) = .val (.bool b) := rfl
theorem apP_refs {M : List Blk} {b cap k : Nat} {l : List Ref} {s : Option Tmp} (hM : M[b]? = some (.live (refC l cap))) (hk : k ≤ l.length) (hc : l.length ≤ cap) (hr : l.length ≤ 1024) :
  apP Try.prog (some (.slice 39)) (some (.slice 39)) M s (.sl 2 [] true) (.rs 2 b (k * 2) (l.length - k) (cap - k)) = some (.sl 2 ((l.drop k).map refP) true, { strip := s }) := by
 have e1 : ((refC l cap).drop (k * 2)).take ((l.length - k) * 2) = refs2 (l.drop k) := refC_tail hk
 have e2 : l.length - k = (l.drop k).length := by rw [List.length_drop]
 have hsz : sz Try.prog 39 = 2 := by kernel_rfl
 have hzs : zsz Try.prog 39 = some 2 := by kernel_rfl
 have hby : byt Try.prog 39 = 24 := by kernel_rfl
 have hrow : rowOf Try.prog 39 (some (.slice 39)) M (.rs 2 b (k * 2) (l.length - k) (cap - k)) = some ((l.drop k).map refP) := by
  simp only [rowOf, hM, hsz, e1]
  rw [if_pos ⟨by rw [refC_len hc]; omega, refs2_plain _⟩, refs2_strip, e2, refs2_chunks]
 have hroom : roomy (([] : List PV).length + ((l.drop k).map refP).length) 24 = true := by
  unfold roomy; simp; omega
 simp only [apP, hrow, hsz, hzs]
 rw [if_pos ⟨by decide, trivial⟩]
 simp only [appP, hsz, hby, hroom]
 simp
theorem ap_r (P : Program) (e e' : TypeId) (s : Option Tmp) (k : Nat) (xs : List PV) (o : Bool) (j b off len cap : Nat) : apB P (some (.slice e)) (some (.slice e')) s (.sl k xs o) (.rs j b off len cap) = none := rfl
theorem blk_one {l : List Ref} {cap k : Nat} (h : k ≤ l.length) (r : Ref) (c1 : Nat) : padded (List.take (k * 2) (refC l cap) ++ stripL (List.flatMap PV.cells [.agg [vI r.t, vS r.n]])) (c1 * 2) = refC (l.take k ++ [r]) c1 := by
 rw [refC_take h, show stripL (List.flatMap PV.cells [.agg [vI r.t, vS r.n]]) = refs2 [r] from rfl, ← refs2_app]; rfl
theorem blk_two {l : List Ref} {cap k : Nat} (h : k ≤ l.length) (r : Ref) {c1 : Nat} (c2 : Nat) : padded (List.take ((k + 1) * 2) (refC (l.take k ++ [r]) c1) ++ stripL (List.flatMap PV.cells ((l.drop k).map refP))) (c2 * 2) = refC (l.take k ++ r :: l.drop k) c2 := by
 have hl : (l.take k ++ [r]).length = k + 1 := by rw [List.length_append, List.length_take, Nat.min_eq_left h]; rfl
 rw [refC_take (by rw [hl]; exact Nat.le_refl _), refs2_flat, List.take_of_length_le (by rw [hl]; exact Nat.le_refl _), ← refs2_app, List.append_assoc]; rfl
theorem zOne39 : zOne Try.prog 39 = true := by kernel_rfl
def D34 : FuncId → Option CB
 | 30 => some (.fn rCCheckF)
 | 31 => some (.fn (totF rBelowF))
 | _ => none
theorem D34_ok : AllB E0 D34 := fun g c h => by
 unfold D34 at h
 split at h <;> simp at h <;> subst h
 ·exact rCCheck_ok
 ·exact (totF_ok rBelow_ok)
def W34 := And.intro @Try.results34 (And.intro @Try.underlying25 (And.intro @sz46 (And.intro @zd46 (And.intro @fa46_0 (And.intro @ag3 (And.intro @sz3 (And.intro @zd3 (And.intro @Try.underlying22 (And.intro @sz39 (And.intro @zd39 (And.intro @ag39 (And.intro @fa46_3 (And.intro @eqt39 (And.intro @bin39 (And.intro @bb_ag (And.intro @zs39 (And.intro @by39 (And.intro @rCCheckE (@rBelowE)))))))))))))))))))
theorem rRefs_ok : Sound Try.prog G0 34 (conT (CB.fn rRefsF).toCon) := by
 refine fn_frzV (fun _ => [74, 76]) D34_ok mixed true Try.func34 (by decide) rfl _ ?_
 intro args ps r hq hp
 obtain ⟨j, o, c, rfl, hj, hx⟩ := onc_inv hq
 obtain ⟨rfl, rfl⟩ := Prod.mk.inj hx
 have hz := hp (szC c) (by simp)
 refine ⟨by simp [norefL, PV.noref, nr_map nr_node], ?_⟩
 simp only [awpBFn, Try.ntmps34, List.length_cons, List.length_nil, Nat.reduceAdd, Nat.reduceSub, List.replicate_succ, List.replicate_zero, List.cons_append, List.nil_append, List.map_cons, List.map_nil]
 have hE := fun o => rCCheckE (o := o) hj
 by_cases hck : checkC c = 0
 case neg =>
  simp -implicitDefEqProofs (maxSteps := 2000000) only [R0, R1, R2, R3, R4, R5, R6, R7, R8, R9, R10, R11, R12, R13, R14, R15, R16, PV.strip, stripL, PV.noref, ri, feedL, feeds, Nat.reduceBEq, Array.toList, ↓reduceIte, forall_const, implies_true, Nat.reduceEqDiff, reduceCtorEq, alP, bxP, bsP, ifP, quiet, riD, bs_l, PV.isRef, plainCell, norefL, PV.scalar, scalarL, PV.cells, PV.solid, PV.one, PV.free, freeL, fillP, splice, Nat.reduceAdd, Nat.reduceMul, Nat.reduceSub, Nat.reduceLeDiff, Nat.reduceLT, Int.reduceToNat, Int.reduceEq, Int.reduceLT, Int.reduceLE, Int.reduceNeg, E0_vc, vaN, PV.avoid, avoidL, Nat.reduceGT, W34, D34, List.length_map, hE, hck, RB0]
  exact ⟨hz, rfl⟩
 have hm := checkC_makes hck
 have hl := makesC_ne hm
 have hj6 : j = 6 := hj.resolve_right (by rintro rfl; simp at hl)
 subst hj6
 simp -implicitDefEqProofs (maxSteps := 2000000) only [R0, R1, R2, R3, R4, R5, R6, R7, R8, R9, R10, R11, R12, R13, R14, R15, R16, PV.strip, stripL, PV.noref, ri, feedL, feeds, Nat.reduceBEq, Array.toList, ↓reduceIte, forall_const, implies_true, Nat.reduceEqDiff, reduceCtorEq, alP, bxP, bsP, ifP, quiet, riD, bs_l, PV.isRef, plainCell, norefL, PV.scalar, scalarL, PV.cells, PV.solid, PV.one, PV.free, freeL, fillP, splice, Nat.reduceAdd, Nat.reduceMul, Nat.reduceSub, Nat.reduceLeDiff, Nat.reduceLT, Int.reduceToNat, Int.reduceEq, Int.reduceLT, Int.reduceLE, Int.reduceNeg, E0_vc, vaN, PV.avoid, avoidL, Nat.reduceGT, W34, D34, List.length_map, hE, hck, RB0]
 refine ⟨hz, ?_⟩
 refine loopB_by (fun x : RfS => [.sl 6 (c.map nodeP) false, .junk, .junk, .junk, .junk, slotR x.l x.cap, vI x.i, .junk, .junk, .junk, .junk, .junk, .junk, .junk, .junk, .junk, .junk, .junk, .junk, .junk, .junk, .junk, .junk, .junk, .junk, .junk, .junk, .junk, .junk, .junk, .junk, .junk, .junk, .junk, .junk, .junk, .junk, .junk, .junk, .junk, .junk, .junk, .junk, .junk, .junk, .junk, .junk, .junk, .junk, .junk, .junk, .junk, .junk, .junk, .junk, .junk, .junk, .junk, .junk, .junk, .junk, .junk, .junk, .junk, .junk, .junk, .junk, .junk, .junk, .junk, .junk, .junk, .junk, .junk, .junk, .junk, .junk, .junk]) (fun x => blkR x.l x.cap)
  (fun x => x.i ≤ c.length ∧ x.l.length ≤ x.cap ∧ x.l.length ≤ x.i ∧ refsD (c.drop x.i) x.l = refsD c [] ∧ ∀ r ∈ x.l, -1 ≤ r.t) (fun x => c.length - x.i) ⟨0, [], 0⟩ ?_ ?_ ?_
 ·simp only [RG0, RG1, Nat.reduceAdd, ltL, PV.lt, Blk.lt, Nat.reduceLT, Nat.reduceLeDiff, Wk_rfl, ltL_vI, wk_sl, slotR_0, blkR_0]
 ·exact ⟨by simp only; omega, by simp, by simp, rfl, by simp⟩
 intro x hP
 obtain ⟨i, l, cap⟩ := x
 have q1 : i ≤ c.length := hP.1
 have q2 : l.length ≤ cap := hP.2.1
 have q3 : l.length ≤ i := hP.2.2.1
 have q4 : refsD (c.drop i) l = refsD c [] := hP.2.2.2.1
 have q5 : ∀ r ∈ l, -1 ≤ r.t := hP.2.2.2.2
 by_cases hi : i < c.length
 case neg =>
  have hi2 : ¬ (i : Int) < c.length := by omega
  have he : refsD c [] = l := by rw [← q4, List.drop_eq_nil_of_le (by omega)]; rfl
  by_cases hl0 : l = []
  ·subst hl0
   simp -implicitDefEqProofs (maxSteps := 2000000) only [R0, R1, R2, R3, R4, R5, R6, R7, R8, R9, R10, R11, R12, R13, R14, R15, R16, PV.strip, stripL, PV.noref, ri, feedL, feeds, Nat.reduceBEq, Array.toList, ↓reduceIte, forall_const, implies_true, Nat.reduceEqDiff, reduceCtorEq, alP, bxP, bsP, ifP, quiet, riD, bs_l, PV.isRef, plainCell, norefL, PV.scalar, scalarL, PV.cells, PV.solid, PV.one, PV.free, freeL, fillP, splice, Nat.reduceAdd, Nat.reduceMul, Nat.reduceSub, Nat.reduceLeDiff, Nat.reduceLT, Int.reduceToNat, Int.reduceEq, Int.reduceLT, Int.reduceLE, Int.reduceNeg, E0_vc, vaN, PV.avoid, avoidL, Nat.reduceGT, W34, D34, gd_node, nodeP, List.length_map, Int.toNat_natCast, hi2, slotR_0, blkR_0, he, RB0]
   exact ⟨rfl, rfl⟩
  ·have hs1 := slotR_1 hl0 cap
   have hb1 := blkR_1 hl0 cap
   simp -implicitDefEqProofs (maxSteps := 2000000) only [R0, R1, R2, R3, R4, R5, R6, R7, R8, R9, R10, R11, R12, R13, R14, R15, R16, PV.strip, stripL, PV.noref, ri, feedL, feeds, Nat.reduceBEq, Array.toList, ↓reduceIte, forall_const, implies_true, Nat.reduceEqDiff, reduceCtorEq, alP, bxP, bsP, ifP, quiet, riD, bs_l, PV.isRef, plainCell, norefL, PV.scalar, scalarL, PV.cells, PV.solid, PV.one, PV.free, freeL, fillP, splice, Nat.reduceAdd, Nat.reduceMul, Nat.reduceSub, Nat.reduceLeDiff, Nat.reduceLT, Int.reduceToNat, Int.reduceEq, Int.reduceLT, Int.reduceLE, Int.reduceNeg, E0_vc, vaN, PV.avoid, avoidL, Nat.reduceGT, W34, D34, gd_node, nodeP, List.length_map, Int.toNat_natCast, hi2, hs1, hb1, he, RB0]
   have hfr : frz [Blk.live (refC l cap)] 4 (.tuple [.rs 2 0 0 l.length cap, vI 0]) = .tuple [ansR l, vI 0] := by
    rw [ansR, if_neg hl0]; exact frz_pair (M := [.live (refC l cap)]) (b := 0) (cap := cap) (l := l) rfl 0
   exact ⟨hfr, by rw [ansR, if_neg hl0]; rfl⟩
 have hi' : (i : Int) < c.length := by omega
 have hnn : c[i] = c.getD i noNode := by rw [List.getD_eq_getElem?_getD, List.getElem?_eq_getElem hi]; rfl
 have hmem : c.getD i noNode ∈ c := by rw [← hnn]; exact List.getElem_mem hi
 have hgo := refsD_go hi l
 by_cases h2 : (c.getD i noNode).op = 2
 case neg =>
  rw [if_neg h2, q4] at hgo
  by_cases hl0 : l = []
  ·subst hl0
   simp -implicitDefEqProofs (maxSteps := 2000000) only [R0, R1, R2, R3, R4, R5, R6, R7, R8, R9, R10, R11, R12, R13, R14, R15, R16, PV.strip, stripL, PV.noref, ri, feedL, feeds, Nat.reduceBEq, Array.toList, ↓reduceIte, forall_const, implies_true, Nat.reduceEqDiff, reduceCtorEq, alP, bxP, bsP, ifP, quiet, riD, bs_l, PV.isRef, plainCell, norefL, PV.scalar, scalarL, PV.cells, PV.solid, PV.one, PV.free, freeL, fillP, splice, Nat.reduceAdd, Nat.reduceMul, Nat.reduceSub, Nat.reduceLeDiff, Nat.reduceLT, Int.reduceToNat, Int.reduceEq, Int.reduceLT, Int.reduceLE, Int.reduceNeg, E0_vc, vaN, PV.avoid, avoidL, Nat.reduceGT, W34, D34, gd_node, nodeP, List.length_map, Int.toNat_natCast, hi', h2, slotR_0, blkR_0, RB0]
   refine ⟨by omega, by unfold inI64; omega, ⟨i + 1, [], 0⟩, ⟨by simp only; omega, by simp, by simp, hgo.symm, by simp⟩, by simp only; omega, ?_⟩
   simp only [RG0, RG1, Nat.reduceAdd, ltL, PV.lt, Blk.lt, Nat.reduceLT, Nat.reduceLeDiff, Wk_rfl, ltL_vI, wk_sl, slotR_0, blkR_0] <;> omega
  ·have hs1 := slotR_1 hl0 cap
   have hb1 := blkR_1 hl0 cap
   simp -implicitDefEqProofs (maxSteps := 2000000) only [R0, R1, R2, R3, R4, R5, R6, R7, R8, R9, R10, R11, R12, R13, R14, R15, R16, PV.strip, stripL, PV.noref, ri, feedL, feeds, Nat.reduceBEq, Array.toList, ↓reduceIte, forall_const, implies_true, Nat.reduceEqDiff, reduceCtorEq, alP, bxP, bsP, ifP, quiet, riD, bs_l, PV.isRef, plainCell, norefL, PV.scalar, scalarL, PV.cells, PV.solid, PV.one, PV.free, freeL, fillP, splice, Nat.reduceAdd, Nat.reduceMul, Nat.reduceSub, Nat.reduceLeDiff, Nat.reduceLT, Int.reduceToNat, Int.reduceEq, Int.reduceLT, Int.reduceLE, Int.reduceNeg, E0_vc, vaN, PV.avoid, avoidL, Nat.reduceGT, W34, D34, gd_node, nodeP, List.length_map, Int.toNat_natCast, hi', h2, hs1, hb1, RB0]
   refine ⟨by omega, by unfold inI64; omega, ⟨i + 1, l, cap⟩, ⟨by simp only; omega, q2, by simp only; omega, hgo.symm, q5⟩, by simp only; omega, ?_⟩
   simp only [RG0, RG1, Nat.reduceAdd, ltL, PV.lt, Blk.lt, Nat.reduceLT, Nat.reduceLeDiff, Wk_rfl, ltL_vI, wk_sl, hs1, hb1] <;> omega
 rw [if_pos h2, q4] at hgo
 have hrt := (fieldsOk_ref (makesC_fields hm _ hmem) h2).1
 have hll : l.length ≤ 1024 := by omega
 have hroom : ∀ k : Nat, k ≤ 1100 → roomy k 24 = true := fun k hk => by unfold roomy; simp; omega
 generalize hR : (c.getD i noNode).ref = r at *
 by_cases hl0 : l = []
 ·subst hl0
  simp -implicitDefEqProofs (maxSteps := 2000000) only [R0, R1, R2, R3, R4, R5, R6, R7, R8, R9, R10, R11, R12, R13, R14, R15, R16, PV.strip, stripL, PV.noref, ri, feedL, feeds, Nat.reduceBEq, Array.toList, ↓reduceIte, forall_const, implies_true, Nat.reduceEqDiff, reduceCtorEq, alP, bxP, bsP, ifP, quiet, riD, bs_l, PV.isRef, plainCell, norefL, PV.scalar, scalarL, PV.cells, PV.solid, PV.one, PV.free, freeL, fillP, splice, Nat.reduceAdd, Nat.reduceMul, Nat.reduceSub, Nat.reduceLeDiff, Nat.reduceLT, Int.reduceToNat, Int.reduceEq, Int.reduceLT, Int.reduceLE, Int.reduceNeg, E0_vc, vaN, PV.avoid, avoidL, Nat.reduceGT, W34, D34, gd_node, nodeP, List.length_map, Int.toNat_natCast, hi', h2, hR, slotR_0, blkR_0, RB0]
  refine ⟨by omega, ?_⟩
  refine loopB_by (fun x : Nat => [.sl 6 (c.map nodeP) false, .junk, .junk, .junk, .junk, .sl 0 [] true, vI i, vI 0, .junk, .junk, .junk, .junk, .junk, .junk, .junk, .junk, .junk, .junk, .junk, .junk, .junk, .junk, .junk, .junk, .junk, .junk, .junk, .junk, .junk, .junk, .junk, .junk, .junk, .junk, .junk, .junk, .junk, .junk, .junk, .junk, .junk, .junk, .junk, .junk, .junk, .junk, .junk, .junk, .junk, .junk, .junk, .junk, .junk, .junk, .junk, .junk, .junk, .junk, .junk, .junk, .junk, .junk, .junk, .junk, .junk, .junk, .junk, .junk, .junk, .junk, .junk, .junk, .junk, .junk, .junk, .junk, .junk, .junk]) (fun x => []) (fun x => True) (fun x => 0) 0 ?_ trivial ?_
  ·simp only [RG0, RG1, Nat.reduceAdd, ltL, PV.lt, Blk.lt, Nat.reduceLT, Nat.reduceLeDiff, Wk_rfl, ltL_vI, wk_sl]
  intro x hP
  simp -implicitDefEqProofs (maxSteps := 2000000) only [R0, R1, R2, R3, R4, R5, R6, R7, R8, R9, R10, R11, R12, R13, R14, R15, R16, PV.strip, stripL, PV.noref, ri, feedL, feeds, Nat.reduceBEq, Array.toList, ↓reduceIte, forall_const, implies_true, Nat.reduceEqDiff, reduceCtorEq, alP, bxP, bsP, ifP, quiet, riD, bs_l, PV.isRef, plainCell, norefL, PV.scalar, scalarL, PV.cells, PV.solid, PV.one, PV.free, freeL, fillP, splice, Nat.reduceAdd, Nat.reduceMul, Nat.reduceSub, Nat.reduceLeDiff, Nat.reduceLT, Int.reduceToNat, Int.reduceEq, Int.reduceLT, Int.reduceLE, Int.reduceNeg, E0_vc, vaN, PV.avoid, avoidL, Nat.reduceGT, W34, D34, gd_node, nodeP, List.length_map, Int.toNat_natCast, hi', h2, hR, List.getD_nil, rBelowT0, rgA, List.drop_nil, List.take_nil, List.map_nil, RB0]
  have hone : ∀ m : Nat, padded (stripL (List.flatMap PV.cells [.agg [vI r.t, vS r.n]])) (m * 2) = refC [r] m := fun m => rfl
  have htw : ∀ m n : Nat, 1 ≤ m → padded (List.take 2 (refC [r] m) ++ stripL (List.flatMap PV.cells [])) (n * 2) = refC [r] n := fun m n hm => by
   have := refC_take (l := [r]) (cap := m) (k := 1) (Nat.le_refl _)
   rw [show 1 * 2 = 2 from rfl] at this
   rw [this]; rfl
  refine ⟨.inl (by decide), .inl (by decide), hroom 0 (by omega), .inl (by decide), by omega, zOne39, hroom 1 (by omega), fun c1 hc1 => ⟨zOne39, ?_, ?_, rfl, hroom 1 (by omega), fun c2 hc2 => ⟨by unfold inI64; omega, ⟨i + 1, [r], c2⟩, ⟨by simp only; omega, by simpa using hc2, by simp only [List.length_cons, List.length_nil]; omega, hgo.symm, ?_⟩, by simp only; omega, ?_⟩⟩⟩
  ·rw [hone, refC_len (by simpa using hc1)]; exact Nat.le_refl _
  ·rw [hone]; exact refC_avoid _ _ _
  ·intro x hx; rw [List.mem_singleton.1 hx]; exact hrt
  ·simp only [RG0, RG1, Nat.reduceAdd, ltL, PV.lt, Blk.lt, Nat.reduceLT, Nat.reduceLeDiff, Wk_rfl, ltL_vI, wk_sl, hone, htw c1 c2 hc1, slotR_1 (l := [r]) (by simp), blkR_1 (l := [r]) (by simp), List.length_cons, List.length_nil] <;> omega
 ·have hs1 := slotR_1 hl0 cap
  have hb1 := blkR_1 hl0 cap
  simp -implicitDefEqProofs (maxSteps := 2000000) only [R0, R1, R2, R3, R4, R5, R6, R7, R8, R9, R10, R11, R12, R13, R14, R15, R16, PV.strip, stripL, PV.noref, ri, feedL, feeds, Nat.reduceBEq, Array.toList, ↓reduceIte, forall_const, implies_true, Nat.reduceEqDiff, reduceCtorEq, alP, bxP, bsP, ifP, quiet, riD, bs_l, PV.isRef, plainCell, norefL, PV.scalar, scalarL, PV.cells, PV.solid, PV.one, PV.free, freeL, fillP, splice, Nat.reduceAdd, Nat.reduceMul, Nat.reduceSub, Nat.reduceLeDiff, Nat.reduceLT, Int.reduceToNat, Int.reduceEq, Int.reduceLT, Int.reduceLE, Int.reduceNeg, E0_vc, vaN, PV.avoid, avoidL, Nat.reduceGT, W34, D34, gd_node, nodeP, List.length_map, Int.toNat_natCast, hi', h2, hR, hs1, hb1, RB0]
  refine ⟨by omega, ?_⟩
  have hC := refC_len q2
  have hc0 : ¬ 0 = cap := fun h => hl0 (List.length_eq_zero_iff.1 (by omega))
  refine loopB_by (fun k : Nat => [.sl 6 (c.map nodeP) false, .junk, .junk, .junk, .junk, .rs 2 0 0 l.length cap, vI i, vI k, .junk, .junk, .junk, .junk, .junk, .junk, .junk, .junk, .junk, .junk, .junk, .junk, .junk, .junk, .junk, .junk, .junk, .junk, .junk, .junk, .junk, .junk, .junk, .junk, .junk, .junk, .junk, .junk, .junk, .junk, .junk, .junk, .junk, .junk, .junk, .junk, .junk, .junk, .junk, .junk, .junk, .junk, .junk, .junk, .junk, .junk, .junk, .junk, .junk, .junk, .junk, .junk, .junk, .junk, .junk, .junk, .junk, .junk, .junk, .junk, .junk, .junk, .junk, .junk, .junk, .junk, .junk, .junk, .junk, .junk]) (fun x => [.live (refC l cap)]) (fun k => k ≤ l.length ∧ ∀ j, j < k → cmpRef (l.getD j noRef) r < 0) (fun k => l.length - k) 0 ?_ ?_ ?_
  ·simp only [RG0, RG1, Nat.reduceAdd, ltL, PV.lt, Blk.lt, Nat.reduceLT, Nat.reduceLeDiff, Wk_rfl, ltL_vI, wk_sl]
  ·exact ⟨by omega, fun j h => by omega⟩
  intro k hP
  have p1 := hP.1; have p2 := hP.2
  by_cases hk : k < l.length
  ·have hk' : (k : Int) < l.length := by omega
   have hke : ¬ (k : Int) = l.length := by omega
   have hat := refC_at (cap := cap) hk
   have hav := hC
   have hkm : l.getD k noRef ∈ l := by
    rw [List.getD_eq_getElem?_getD, List.getElem?_eq_getElem hk]; exact List.getElem_mem hk
   have hqt := q5 _ hkm
   generalize hQ : l.getD k noRef = q at *
   by_cases hlt : cmpRef q r < 0
   ·simp -implicitDefEqProofs (maxSteps := 2000000) only [R0, R1, R2, R3, R4, R5, R6, R7, R8, R9, R10, R11, R12, R13, R14, R15, R16, PV.strip, stripL, PV.noref, ri, feedL, feeds, Nat.reduceBEq, Array.toList, ↓reduceIte, forall_const, implies_true, Nat.reduceEqDiff, reduceCtorEq, alP, bxP, bsP, ifP, quiet, riD, bs_l, PV.isRef, plainCell, norefL, PV.scalar, scalarL, PV.cells, PV.solid, PV.one, PV.free, freeL, fillP, splice, Nat.reduceAdd, Nat.reduceMul, Nat.reduceSub, Nat.reduceLeDiff, Nat.reduceLT, Int.reduceToNat, Int.reduceEq, Int.reduceLT, Int.reduceLE, Int.reduceNeg, E0_vc, vaN, PV.avoid, avoidL, Nat.reduceGT, W34, D34, gd_node, nodeP, List.length_map, Int.toNat_natCast, hi', h2, hR, hk', hat, hC, hlt, rBelowX, RB0]
    refine ⟨.inl (by decide), by omega, by omega, by omega, hqt, hrt, by unfold inI64; omega, k + 1, ⟨by omega, fun j hj => ?_⟩, by omega, ?_⟩
    ·by_cases hjk : j = k
     ·subst hjk; rw [hQ]; exact hlt
     ·exact p2 j (by omega)
    ·simp only [RG0, RG1, Nat.reduceAdd, ltL, PV.lt, Blk.lt, Nat.reduceLT, Nat.reduceLeDiff, Wk_rfl, ltL_vI, wk_sl] <;> omega
   ·by_cases heq : q = r
    ·subst heq
     simp -implicitDefEqProofs (maxSteps := 2000000) only [R0, R1, R2, R3, R4, R5, R6, R7, R8, R9, R10, R11, R12, R13, R14, R15, R16, PV.strip, stripL, PV.noref, ri, feedL, feeds, Nat.reduceBEq, Array.toList, ↓reduceIte, forall_const, implies_true, Nat.reduceEqDiff, reduceCtorEq, alP, bxP, bsP, ifP, quiet, riD, bs_l, PV.isRef, plainCell, norefL, PV.scalar, scalarL, PV.cells, PV.solid, PV.one, PV.free, freeL, fillP, splice, Nat.reduceAdd, Nat.reduceMul, Nat.reduceSub, Nat.reduceLeDiff, Nat.reduceLT, Int.reduceToNat, Int.reduceEq, Int.reduceLT, Int.reduceLE, Int.reduceNeg, E0_vc, vaN, PV.avoid, avoidL, Nat.reduceGT, W34, D34, gd_node, nodeP, List.length_map, Int.toNat_natCast, hi', h2, hR, hk', hke, hat, hC, hlt, rBelowX, RB0]
     have hin := insR_at (l := l) (k := k) (r := q) p1 p2 (fun _ => by rw [hQ]; exact hlt)
     rw [if_pos ⟨hk, hQ⟩] at hin
     refine ⟨.inl (by decide), by omega, by omega, by omega, hqt, hqt, .inl (by decide), by omega, by omega, by omega, by unfold inI64; omega, ⟨i + 1, l, cap⟩, ⟨by simp only; omega, q2, by simp only; omega, ?_, q5⟩, by simp only; omega, ?_⟩
     ·simp only; rw [hgo, hin]
     ·simp only [RG0, RG1, Nat.reduceAdd, ltL, PV.lt, Blk.lt, Nat.reduceLT, Nat.reduceLeDiff, Wk_rfl, ltL_vI, wk_sl, hs1, hb1] <;> omega
    ·have hkc : ¬ k = cap := by omega
     have hap := fun s => apP_refs (M := [.live (refC l cap)]) (b := 0) (s := s) rfl p1 q2 hll
     simp -implicitDefEqProofs (maxSteps := 2000000) only [R0, R1, R2, R3, R4, R5, R6, R7, R8, R9, R10, R11, R12, R13, R14, R15, R16, PV.strip, stripL, PV.noref, ri, feedL, feeds, Nat.reduceBEq, Array.toList, ↓reduceIte, forall_const, implies_true, Nat.reduceEqDiff, reduceCtorEq, alP, bxP, bsP, ifP, quiet, riD, bs_l, PV.isRef, plainCell, norefL, PV.scalar, scalarL, PV.cells, PV.solid, PV.one, PV.free, freeL, fillP, splice, Nat.reduceAdd, Nat.reduceMul, Nat.reduceSub, Nat.reduceLeDiff, Nat.reduceLT, Int.reduceToNat, Int.reduceEq, Int.reduceLT, Int.reduceLE, Int.reduceNeg, E0_vc, vaN, PV.avoid, avoidL, Nat.reduceGT, W34, D34, gd_node, nodeP, List.length_map, Int.toNat_natCast, hi', h2, hR, hk', hke, hkc, hap, hat, hC, hlt, rBelowX, heq, ap_r, hc0, Nat.sub_zero, rgA, RB0]
     have hin := insR_at (l := l) (k := k) (r := r) p1 p2 (fun _ => by rw [hQ]; exact hlt)
     rw [if_neg (fun h => heq (by rw [← hQ]; exact h.2))] at hin
     have hb2 := fun m => blk_one (cap := cap) p1 r m
     have hb3 := fun m n => blk_two (cap := cap) p1 r (c1 := m) n
     have hnn0 : ¬ l.take k ++ r :: l.drop k = [] := by simp
     have hln : (l.take k ++ r :: l.drop k).length = l.length + 1 := by rw [List.length_append, List.length_take, List.length_cons, List.length_drop]; omega
     have hld : (l.drop k).length = l.length - k := List.length_drop ..
     refine ⟨.inl (by decide), by omega, by omega, by omega, hqt, hrt, .inl (by decide), by omega, by omega, by omega, by omega, .inl (by decide), by omega, by omega, zOne39, refC_avoid _ _ _, rfl, hroom _ (by omega), fun c1 hc1 => ⟨zOne39, ?_, ?_, rfl, hroom _ (by omega), fun c2 hc2 => ⟨by unfold inI64; omega, ⟨i + 1, l.take k ++ r :: l.drop k, c2⟩, ⟨by simp only; omega, by simp only; omega, by simp only; omega, ?_, ?_⟩, by simp only; omega, ?_⟩⟩⟩
     ·rw [hb2, refC_len (by rw [List.length_append, List.length_take]; simp only [List.length_cons, List.length_nil]; omega)]; exact Nat.le_refl _
     ·rw [hb2]; exact refC_avoid _ _ _
     ·simp only; rw [hgo, hin]
     ·intro x hx
      simp only [List.mem_append, List.mem_cons] at hx
      rcases hx with hx | hx | hx
      ·exact q5 x (List.mem_of_mem_take hx)
      ·rw [hx]; exact hrt
      ·exact q5 x (List.mem_of_mem_drop hx)
     ·have hl2 : k + 1 + (l.length - k) = l.length + 1 := by omega
      simp only [RG0, RG1, Nat.reduceAdd, ltL, PV.lt, Blk.lt, Nat.reduceLT, Nat.reduceLeDiff, Wk_rfl, ltL_vI, wk_sl, hb2, hb3, slotR_1 hnn0, blkR_1 hnn0, hln, hld, hl2] <;> omega
  ·have hke : k = l.length := by omega
   subst hke
   have hap := fun s => apP_refs (M := [.live (refC l cap)]) (b := 0) (s := s) rfl (Nat.le_refl _) q2 hll
   have hin := insR_at (l := l) (k := l.length) (r := r) p1 p2 (fun h => absurd h (Nat.lt_irrefl _))
   rw [if_neg (fun h => Nat.lt_irrefl _ h.1)] at hin
   have hb2 := fun m => blk_one (cap := cap) p1 r m
   have hb3 := fun m n => blk_two (cap := cap) p1 r (c1 := m) n
   have hnn0 : ¬ l.take l.length ++ r :: l.drop l.length = [] := by simp
   have hln : (l.take l.length ++ r :: l.drop l.length).length = l.length + 1 := by rw [List.length_append, List.length_take, List.length_cons, List.length_drop]; omega
   simp only [Nat.sub_self, List.drop_length, List.map_nil] at hap hb3 hin hnn0 hln
   have hmem2 : ∀ x ∈ l.take l.length ++ [r], -1 ≤ x.t := fun x hx => by
    simp only [List.mem_append, List.mem_singleton] at hx
    rcases hx with hx | hx
    ·exact q5 x (List.mem_of_mem_take hx)
    ·rw [hx]; exact hrt
   by_cases hkc0 : l.length = cap
   ·have hkc := eq_true hkc0
    simp -implicitDefEqProofs (maxSteps := 2000000) only [R0, R1, R2, R3, R4, R5, R6, R7, R8, R9, R10, R11, R12, R13, R14, R15, R16, PV.strip, stripL, PV.noref, ri, feedL, feeds, Nat.reduceBEq, Array.toList, ↓reduceIte, forall_const, implies_true, Nat.reduceEqDiff, reduceCtorEq, alP, bxP, bsP, ifP, quiet, riD, bs_l, PV.isRef, plainCell, norefL, PV.scalar, scalarL, PV.cells, PV.solid, PV.one, PV.free, freeL, fillP, splice, Nat.reduceAdd, Nat.reduceMul, Nat.reduceSub, Nat.reduceLeDiff, Nat.reduceLT, Int.reduceToNat, Int.reduceEq, Int.reduceLT, Int.reduceLE, Int.reduceNeg, E0_vc, vaN, PV.avoid, avoidL, Nat.reduceGT, W34, D34, gd_node, nodeP, List.length_map, Int.toNat_natCast, hi', h2, hR, Int.lt_irrefl, decide_false, hkc, hC, rBelowTJ, eqJ, arV_n, rc_n, mT, hc0, Nat.sub_zero, Nat.sub_self, rgA, List.take_nil, List.drop_nil, RB0]
    refine ⟨.inl (by decide), .inl (by decide), by omega, hroom _ (by omega), .inl (by decide), by omega, by omega, zOne39, refC_avoid _ _ _, rfl, hroom _ (by omega), fun c1 hc1 => ⟨zOne39, ?_, ?_, rfl, hroom _ (by omega), fun c2 hc2 => ⟨by unfold inI64; omega, ⟨i + 1, l.take l.length ++ [r], c2⟩, ⟨by simp only; omega, by simp only; omega, by simp only; omega, ?_, hmem2⟩, by simp only; omega, ?_⟩⟩⟩
    ·rw [hb2, refC_len (by rw [List.length_append, List.length_take]; simp only [List.length_cons, List.length_nil]; omega)]; exact Nat.le_refl _
    ·rw [hb2]; exact refC_avoid _ _ _
    ·simp only; rw [hgo, hin]
    ·simp only [RG0, RG1, Nat.reduceAdd, ltL, PV.lt, Blk.lt, Nat.reduceLT, Nat.reduceLeDiff, Wk_rfl, ltL_vI, wk_sl, hb2, hb3, slotR_1 hnn0, blkR_1 hnn0, hln] <;> omega
   ·simp -implicitDefEqProofs (maxSteps := 2000000) only [R0, R1, R2, R3, R4, R5, R6, R7, R8, R9, R10, R11, R12, R13, R14, R15, R16, PV.strip, stripL, PV.noref, ri, feedL, feeds, Nat.reduceBEq, Array.toList, ↓reduceIte, forall_const, implies_true, Nat.reduceEqDiff, reduceCtorEq, alP, bxP, bsP, ifP, quiet, riD, bs_l, PV.isRef, plainCell, norefL, PV.scalar, scalarL, PV.cells, PV.solid, PV.one, PV.free, freeL, fillP, splice, Nat.reduceAdd, Nat.reduceMul, Nat.reduceSub, Nat.reduceLeDiff, Nat.reduceLT, Int.reduceToNat, Int.reduceEq, Int.reduceLT, Int.reduceLE, Int.reduceNeg, E0_vc, vaN, PV.avoid, avoidL, Nat.reduceGT, W34, D34, gd_node, nodeP, List.length_map, Int.toNat_natCast, hi', h2, hR, Int.lt_irrefl, decide_false, hkc0, hap, ap_r, hC, rBelowTJ, eqJ, arV_n, rc_n, mT, hc0, Nat.sub_zero, Nat.sub_self, rgA, List.take_nil, List.drop_nil, List.map_nil, RB0]
    refine ⟨.inl (by decide), .inl (by decide), by omega, .inl (by decide), by omega, by omega, zOne39, refC_avoid _ _ _, rfl, hroom _ (by omega), fun c1 hc1 => ⟨zOne39, ?_, ?_, rfl, hroom _ (by omega), fun c2 hc2 => ⟨by unfold inI64; omega, ⟨i + 1, l.take l.length ++ [r], c2⟩, ⟨by simp only; omega, by simp only; omega, by simp only; omega, ?_, hmem2⟩, by simp only; omega, ?_⟩⟩⟩
    ·rw [hb2, refC_len (by rw [List.length_append, List.length_take]; simp only [List.length_cons, List.length_nil]; omega)]; exact Nat.le_refl _
    ·rw [hb2]; exact refC_avoid _ _ _
    ·simp only; rw [hgo, hin]
    ·simp only [RG0, RG1, Nat.reduceAdd, ltL, PV.lt, Blk.lt, Nat.reduceLT, Nat.reduceLeDiff, Wk_rfl, ltL_vI, wk_sl, hb2, hb3, slotR_1 hnn0, blkR_1 hnn0, hln] <;> omega
end Go.Ve.H
end
namespace Go.Proofs
open Go.Shelf
def Try.sortR_ren : Go.Shelf.Ren := ⟨fun | 6 => 39 | 15 => 54 | 14 => 53 | 28 => 71 | 29 => 72 | 20 => 63 | 21 => 64 | 22 => 65 | 23 => 66 | 24 => 67 | 25 => 68 | 26 => 69 | 27 => 70 | 46 => 74 | 47 => 75 | 48 => 76 | 49 => 77 | 50 => 78 | 57 => 79 | n => n, fun | 22 => 22 | 24 => 39 | 25 => 70 | 3 => 3 | 39 => 84 | 0 => 0 | 53 => 99 | 55 => 101 | 4 => 4 | 46 => 92 | 45 => 91 | 50 => 96 | 5 => 5 | 9 => 9 | 66 => 102 | 70 => 106 | 76 => 108 | 77 => 109 | n => n, fun | n => n⟩
theorem Try.sortR : Go.Proofs.SlLaysF0.n6 Try.prog Try.sortR_ren := {
 mixed := by kernel_rfl
 f6 := ⟨Try.f39.name, by decide, Try.func39.trans (congrArg some (by kernel_rfl))⟩
 f14 := ⟨Try.f53.name, by decide, Try.func53.trans (congrArg some (by kernel_rfl))⟩
 f15 := Try.func54.trans (congrArg some (by kernel_rfl))
 f20 := ⟨Try.f63.name, by decide, Try.func63.trans (congrArg some (by kernel_rfl))⟩
 f21 := ⟨Try.f64.name, by decide, Try.func64.trans (congrArg some (by kernel_rfl))⟩
 f22 := ⟨Try.f65.name, by decide, Try.func65.trans (congrArg some (by kernel_rfl))⟩
 f23 := ⟨Try.f66.name, by decide, Try.func66.trans (congrArg some (by kernel_rfl))⟩
 f24 := ⟨Try.f67.name, by decide, Try.func67.trans (congrArg some (by kernel_rfl))⟩
 f25 := ⟨Try.f68.name, by decide, Try.func68.trans (congrArg some (by kernel_rfl))⟩
 f26 := ⟨Try.f69.name, by decide, Try.func69.trans (congrArg some (by kernel_rfl))⟩
 f27 := ⟨Try.f70.name, by decide, Try.func70.trans (congrArg some (by kernel_rfl))⟩
 f28 := Try.func71.trans (congrArg some (by kernel_rfl))
 f29 := Try.func72.trans (congrArg some (by kernel_rfl))
 f46 := ⟨Try.f74.name, by decide, Try.func74.trans (congrArg some (by kernel_rfl))⟩
 f47 := Try.func75.trans (congrArg some (by kernel_rfl))
 f48 := Try.func76.trans (congrArg some (by kernel_rfl))
 f49 := ⟨Try.f77.name, by decide, Try.func77.trans (congrArg some (by kernel_rfl))⟩
 f50 := ⟨Try.f78.name, by decide, Try.func78.trans (congrArg some (by kernel_rfl))⟩
 f57 := ⟨Try.f79.name, by decide, Try.func79.trans (congrArg some (by kernel_rfl))⟩
 t0 := Try.underlying0
 a0 := Try.isAgg0
 z0 := Try.sizeOf0
 v0 := Try.zeroValue0
 t3 := Try.underlying3
 a3 := Try.isAgg3
 z3 := Try.sizeOf3
 v3 := Try.zeroValue3
 t4 := Try.underlying4
 a4 := Try.isAgg4
 z4 := Try.sizeOf4
 v4 := Try.zeroValue4
 t5 := Try.underlying5
 a5 := Try.isAgg5
 z5 := Try.sizeOf5
 v5 := Try.zeroValue5
 t9 := Try.underlying9
 a9 := Try.isAgg9
 z9 := Try.sizeOf9
 v9 := Try.zeroValue9
 t22 := Try.underlying22
 a22 := Try.isAgg22
 z22 := Try.sizeOf22
 v22 := Try.zeroValue22
 t25 := Try.underlying70
 a25 := Try.isAgg70
 z25 := Try.sizeOf70
 v25 := Try.zeroValue70
 t39 := Try.underlying84
 a39 := Try.isAgg84
 z39 := Try.sizeOf84
 v39 := Try.zeroValue84
 t45 := Try.underlying91
 a45 := Try.isAgg91
 z45 := Try.sizeOf91
 v45 := Try.zeroValue91
 t46 := Try.underlying92
 a46 := Try.isAgg92
 z46 := Try.sizeOf92
 v46 := Try.zeroValue92
 t50 := Try.underlying96
 a50 := Try.isAgg96
 z50 := Try.sizeOf96
 v50 := Try.zeroValue96
 t53 := Try.underlying99
 a53 := Try.isAgg99
 z53 := Try.sizeOf99
 v53 := Try.zeroValue99
 t55 := Try.underlying101
 a55 := Try.isAgg101
 z55 := Try.sizeOf101
 v55 := Try.zeroValue101
 t66 := Try.underlying102
 a66 := Try.isAgg102
 z66 := Try.sizeOf102
 v66 := Try.zeroValue102
 t70 := Try.underlying106
 a70 := Try.isAgg106
 z70 := Try.sizeOf106
 v70 := Try.zeroValue106
 t76 := Try.underlying108
 a76 := Try.isAgg108
 z76 := Try.sizeOf108
 v76 := Try.zeroValue108
 t77 := Try.underlying109
 a77 := Try.isAgg109
 z77 := Try.sizeOf109
 v77 := Try.zeroValue109 }
end Go.Proofs
section
set_option maxRecDepth 10000
set_option maxHeartbeats 4000000
namespace Go.Ve.H
open Go Go.Proofs Go.Ve Go.Sort
structure RefK where
 r : Ref
 h : inI64 r.t
instance : Inhabited RefK := ⟨⟨noRef, by unfold inI64; decide⟩⟩
theorem RefK.ext' {a b : RefK} (h : a.r = b.r) : a = b := by
 obtain ⟨a, _⟩ := a; obtain ⟨b, _⟩ := b
 simp only at h; subst h; rfl
def encK (x : RefK) : List Value := [.int .i64 x.r.t, .string x.r.n]
def cmpK (x y : RefK) : Int := cmpRef x.r y.r
theorem cmpRef_anti {a b : Ref} (h : cmpRef a b < 0) : ¬ cmpRef b a < 0 := fun h2 => by
 have := cmpRef_trans h h2
 rw [cmpRef_refl] at this; omega
theorem cmpB_tot : ∀ {a b : List UInt8}, ¬ Lib.compareBytes a b < 0 → ¬ Lib.compareBytes b a < 0 → a = b
 | [], [], _, _ => rfl
 | [], y :: b, h, _ => by simp [Lib.compareBytes] at h
 | x :: a, [], _, h => by simp [Lib.compareBytes] at h
 | x :: a, y :: b, h, h' => by
  unfold Lib.compareBytes at h h'
  by_cases h1 : x < y
  ·rw [if_pos h1] at h; omega
  ·by_cases h2 : y < x
   ·rw [if_pos h2] at h'; omega
   ·rw [if_neg h1, if_neg h2] at h
    rw [if_neg h2, if_neg h1] at h'
    rw [cmpB_tot h h', UInt8.le_antisymm (UInt8.not_lt.1 h2) (UInt8.not_lt.1 h1)]
theorem cmpRef_tot {a b : Ref} (h1 : ¬ cmpRef a b < 0) (h2 : ¬ cmpRef b a < 0) : a = b := by
 unfold cmpRef at h1 h2
 by_cases hd : decide (a.t < 0) ≠ decide (b.t < 0)
 ·exfalso
  rw [if_pos hd] at h1
  rw [if_pos hd.symm] at h2
  by_cases ha : a.t < 0 <;> by_cases hb : b.t < 0
  ·exact hd (by rw [decide_eq_true ha, decide_eq_true hb])
  ·rw [if_neg hb] at h2; omega
  ·rw [if_neg ha] at h1; omega
  ·exact hd (by rw [decide_eq_false ha, decide_eq_false hb])
 ·rw [if_neg hd] at h1
  rw [if_neg (fun h => hd h.symm)] at h2
  by_cases ht : a.t ≠ b.t
  ·rw [if_pos ht] at h1; rw [if_pos (Ne.symm ht)] at h2; omega
  ·rw [if_neg ht] at h1; rw [if_neg (fun h => ht (Ne.symm h))] at h2
   obtain ⟨t, ⟨⟨n⟩⟩⟩ := a
   obtain ⟨t', ⟨⟨n'⟩⟩⟩ := b
   have e1 : t = t' := by simpa using ht
   have e2 : n = n' := cmpB_tot h1 h2
   rw [e1, e2]
theorem ltK (x y : RefK) : ltOf cmpK x y = decide (cmpRef x.r y.r < 0) := rfl
theorem swoK : SWO (ltOf cmpK) := {
 irrefl x := by rw [ltK, cmpRef_refl]; rfl
 trans x y z h1 h2 := by
  rw [ltK, decide_eq_true_eq] at *
  exact cmpRef_trans h1 h2
 ntrans x y z h1 h2 := by
  rw [ltK, decide_eq_false_iff_not] at *
  intro h
  by_cases e : cmpRef z.r y.r < 0
  ·exact h1 (cmpRef_trans h e)
  ·have e2 := cmpRef_tot h2 e
   rw [e2] at h1
   exact h1 h }
theorem totK (x y : RefK) (h1 : ltOf cmpK x y = false) (h2 : ltOf cmpK y x = false) : x = y := by
 rw [ltK, decide_eq_false_iff_not] at *
 exact RefK.ext' (cmpRef_tot h1 h2)
theorem encK_flat : ∀ l : List RefK, (l.flatMap encK).map PV.val = refs2 (l.map RefK.r)
 | [] => rfl
 | x :: l => by rw [List.flatMap_cons, List.map_append, encK_flat l]; rfl
def toK (l : List Ref) (h : ∀ r ∈ l, inI64 r.t) : List RefK := l.pmap RefK.mk h
theorem toK_map : ∀ (l : List Ref) (h : ∀ r ∈ l, inI64 r.t), (toK l h).map RefK.r = l
 | [], _ => rfl
 | r :: l, h => by
  show r :: (toK l (fun x hx => h x (List.mem_cons_of_mem _ hx))).map RefK.r = _
  rw [toK_map l]
def sortRT : PT := fun args M K =>
 (∃ (k : Nat) (own : Bool), args = [.sl k [] own, .func (.func 40) [] []] ∧ K (.tuple []) M) ∨
 ∃ (b cap : Nat) (l : List Ref) (rest : List PV), args = [.rs 2 b 0 l.length cap, .func (.func 40) [] []] ∧ M[b]? = some (.live (refs2 l ++ rest)) ∧ l.length < 4611686018427387904 ∧ (∀ r ∈ l, inI64 r.t) ∧
  ∀ l' : List Ref, l'.Perm l → l'.Pairwise (fun a b => ¬ cmpRef b a < 0) → K (.tuple []) (M.set b (.live (refs2 l' ++ rest)))
theorem sortRT_mono : ∀ args B K K', (∀ r b, K r b → K' r b) → sortRT args B K → sortRT args B K' := by
 intro args M K K' hk h
 rcases h with ⟨k, own, h1, h2⟩ | ⟨b, cap, l, rest, h1, h2, h3, h4, h5⟩
 ·exact .inl ⟨k, own, h1, hk _ _ h2⟩
 ·exact .inr ⟨b, cap, l, rest, h1, h2, h3, h4, fun l' a b => hk _ _ (h5 l' a b)⟩
theorem sortR_ok : Sound Try.prog G0 39 sortRT := by
 have hs := Sound.sort (G := G0) Try.sortR ⟨_, Try.func39, by decide, rfl⟩ (fun _ => rfl) 2 (fun w => by kernel_rfl) (fun w => by kernel_rfl) encK (fun _ => rfl) (fun x v hv => by
  simp only [encK, List.mem_cons, List.not_mem_nil, or_false] at hv
  rcases hv with rfl | rfl <;> rfl) cmpK swoK totK 40 (enters_of Try.func40 (by kernel_rfl) rfl) _ pBelow_ok (fun x y => ⟨_, pBelowE x.r y.r, fun p hp => by
   simp only [List.mem_cons, List.not_mem_nil, or_false] at hp
   rcases hp with rfl | rfl
   ·exact x.h
   ·exact y.h⟩)
 refine Sound.weaken hs fun args M K h => ?_
 rcases h with ⟨k, own, h1, h2⟩ | ⟨b, cap, l, rest, h1, h2, h3, h4, h5⟩
 ·exact .inl ⟨k, own, h1, h2⟩
 ·have e := toK_map l h4
  have hl : (toK l h4).length = l.length := by rw [← List.length_map (f := RefK.r), e]
  refine .inr ⟨b, cap, toK l h4, rest, by rw [h1, hl], by rw [encK_flat, e]; exact h2, by rw [hl]; exact h3, ?_⟩
  rw [encK_flat]
  refine h5 _ ?_ ?_
  ·have := (List.mergeSort_perm (toK l h4) fun x y => !(ltOf cmpK) y x).map RefK.r
   rw [e] at this; exact this
  ·have hs := List.pairwise_mergeSort (le := fun x y => !(ltOf cmpK) y x) (fun x y z h1 h2 => by
    simp only [Bool.not_eq_true', ltK, decide_eq_false_iff_not] at *
    exact fun h => by
     by_cases e : cmpRef z.r y.r < 0
     ·exact h2 e
     ·have := swoK.ntrans z y x (by rw [ltK, decide_eq_false_iff_not]; exact e) (by rw [ltK, decide_eq_false_iff_not]; exact h1)
      rw [ltK, decide_eq_false_iff_not] at this; exact this h) (fun x y => by
    simp only [Bool.or_eq_true, Bool.not_eq_true', ltK, decide_eq_false_iff_not]
    by_cases e : cmpRef y.r x.r < 0
    ·exact .inr (cmpRef_anti e)
    ·exact .inl e) (toK l h4)
   rw [List.pairwise_map]
   refine hs.imp fun {a b} h => ?_
   simpa only [Bool.not_eq_true', ltK, decide_eq_false_iff_not] using h
end Go.Ve.H
end
section
set_option maxRecDepth 10000
set_option maxHeartbeats 20000000
namespace Go.Ve.H
open Go Go.Proofs Go.Ve
def cmpt : List Ref → List Ref
 | [] => []
 | [a] => [a]
 | a :: b :: l => if a = b then cmpt (b :: l) else a :: cmpt (b :: l)
theorem cmpt_snoc : ∀ (l : List Ref) (x y : Ref), cmpt (l ++ [x, y]) = cmpt (l ++ [x]) ++ (if x = y then [] else [y])
 | [], x, y => by
  simp only [List.nil_append, cmpt]
  by_cases h : x = y
  ·subst h; simp
  ·simp [h]
 | [a], x, y => by
  simp only [List.cons_append, List.nil_append, cmpt]
  by_cases h : a = x <;> by_cases h' : x = y <;> simp [h, h']
 | a :: b :: l, x, y => by
  have := cmpt_snoc (b :: l) x y
  simp only [List.cons_append] at this ⊢
  simp only [cmpt, this]
  by_cases h : a = b <;> simp [h]
theorem take_two {l : List Ref} {m : Nat} (h0 : 0 < m) (h : m < l.length) : l.take (m + 1) = l.take (m - 1) ++ [l.getD (m - 1) noRef, l.getD m noRef] ∧ l.take m = l.take (m - 1) ++ [l.getD (m - 1) noRef] := by
 have g : ∀ i, i < l.length → l.take (i + 1) = l.take i ++ [l.getD i noRef] := fun i hi => by
  rw [List.take_succ, List.getElem?_eq_getElem hi, List.getD_eq_getElem?_getD, List.getElem?_eq_getElem hi]; rfl
 have h1 := g m h
 have h2 := g (m - 1) (by omega)
 rw [show m - 1 + 1 = m by omega] at h2
 refine ⟨?_, h2⟩
 rw [h1, h2, List.append_assoc]; rfl
theorem cmpt_go {l : List Ref} {m : Nat} (h0 : 0 < m) (h : m < l.length) : cmpt (l.take (m + 1)) = cmpt (l.take m) ++ (if l.getD (m - 1) noRef = l.getD m noRef then [] else [l.getD m noRef]) := by
 obtain ⟨h1, h2⟩ := take_two h0 h
 rw [h1, h2, cmpt_snoc]
theorem cmpt_mem : ∀ (l : List Ref) (x : Ref), x ∈ cmpt l ↔ x ∈ l
 | [], x => Iff.rfl
 | [a], x => Iff.rfl
 | a :: b :: l, x => by
  have ih := cmpt_mem (b :: l) x
  unfold cmpt
  split
  ·rename_i h; subst h
   rw [ih]; simp
  ·rw [List.mem_cons, ih, List.mem_cons (a := x) (b := a)]
theorem cmpt_asc : ∀ (l : List Ref), l.Pairwise (fun a b => ¬ cmpRef b a < 0) → ascR (cmpt l)
 | [], _ => .nil
 | [a], _ => List.pairwise_singleton ..
 | a :: b :: l, h => by
  obtain ⟨h1, h2⟩ := List.pairwise_cons.1 h
  have ih := cmpt_asc (b :: l) h2
  unfold cmpt
  split
  ·exact ih
  ·rename_i hne
   refine List.pairwise_cons.2 ⟨fun x hx => ?_, ih⟩
   have hx' := (cmpt_mem (b :: l) x).1 hx
   have hax := h1 x hx'
   have hbx : b = x ∨ ¬ cmpRef x b < 0 := by
    rcases List.mem_cons.1 hx' with e | e
    ·exact .inl e.symm
    ·exact .inr ((List.pairwise_cons.1 h2).1 x e)
   apply Decidable.byContradiction
   intro hn
   have e := cmpRef_tot hn hax
   subst e
   have hba := h1 b (by simp)
   rcases hbx with e | e
   ·exact hne e.symm
   ·exact hne (cmpRef_tot e hba)
theorem refsB_at {l : List Ref} {B : List PV} {k : Nat} (h : k < l.length) : List.take 2 (List.drop (k * 2) (refs2 l ++ B)) = [vI (l.getD k noRef).t, vS (l.getD k noRef).n] := by
 have hn : l[k] = l.getD k noRef := by rw [List.getD_eq_getElem?_getD, List.getElem?_eq_getElem h]; rfl
 rw [List.drop_append_of_le_length (by rw [refs2_len]; omega), refs2_drop, List.drop_eq_getElem_cons h, hn, refs2]
 rfl
theorem refsB_set {l : List Ref} {B : List PV} {k : Nat} (h : k < l.length) (r : Ref) : splice (refs2 l ++ B) (k * 2) [vI r.t, vS r.n] = refs2 (l.set k r) ++ B := by
 have e : k * 2 + 2 = (k + 1) * 2 := by omega
 show List.take (k * 2) (refs2 l ++ B) ++ [vI r.t, vS r.n] ++ List.drop (k * 2 + 2) (refs2 l ++ B) = _
 rw [List.take_append_of_le_length (by rw [refs2_len]; omega), refs2_take, e, List.drop_append_of_le_length (by rw [refs2_len]; omega), refs2_drop, List.set_eq_take_append_cons_drop, if_pos h, refs2_app, refs2]
 simp only [List.append_assoc, List.cons_append, List.nil_append]
structure CpS where
 j : Nat
 k : Nat
 cur : List Ref
def compT : PT := fun args M K =>
 (∃ (k : Nat) (own : Bool), args = [.sl k [] own] ∧ M = [] ∧ K (.sl k [] false) M) ∨
 ∃ (cap : Nat) (l : List Ref) (c0 : List PV) (rest : List PV), args = [.rs 2 1 0 l.length cap] ∧ l.length ≤ cap ∧ l.length ≤ 100000 ∧ M = [.live c0, .live (refs2 l ++ rest)] ∧ ∀ rest', K (.rs 2 1 0 (cmpt l).length cap) [.live c0, .live (refs2 (cmpt l) ++ rest')]
theorem compT_mono : ∀ args B K K', (∀ r b, K r b → K' r b) → compT args B K → compT args B K' := by
 intro args M K K' hk h
 rcases h with ⟨k, own, h1, h2, h3⟩ | ⟨cap, l, c0, rest, h1, h2, h3, h4, h5⟩
 ·exact .inl ⟨k, own, h1, h2, hk _ _ h3⟩
 ·exact .inr ⟨cap, l, c0, rest, h1, h2, h3, h4, fun r => hk _ _ (h5 r)⟩
def D41 : FuncId → Option CB := fun _ => none
theorem D41_ok : AllB E0 D41 := fun g c h => by cases h
def W41 := And.intro @Try.results41 (And.intro @Try.underlying22 (And.intro @sz39 (And.intro @zd39 (And.intro @ag39 (And.intro @eqt39 (And.intro @bin39 (@bb_ag)))))))
theorem comp_ok : Sound Try.prog G0 41 compT := by
 refine Sound.weaken (sound_of_awp (D := conD D41) D41_ok.con mixed Try.func41 (by decide) rfl) ?_
 intro args M K h
 refine awpBFn_sound (s := true) ?_
 rcases h with ⟨k, own, rfl, rfl, hK⟩ | ⟨cap, l, c0, rest, rfl, hc, hl, rfl, hK⟩
 ·simp only [awpBFn, Try.ntmps41, List.length_cons, List.length_nil, Nat.reduceAdd, Nat.reduceSub, List.replicate_succ, List.replicate_zero, List.cons_append, List.nil_append, List.map_cons, List.map_nil]
  simp -implicitDefEqProofs (maxSteps := 2000000) only [R0, R1, R2, R3, R4, R5, R6, R7, R8, R9, R10, R11, R12, R13, R14, R15, R16, PV.strip, stripL, PV.noref, ri, feedL, feeds, Nat.reduceBEq, Array.toList, ↓reduceIte, forall_const, implies_true, Nat.reduceEqDiff, reduceCtorEq, alP, bxP, bsP, ifP, quiet, riD, bs_l, PV.isRef, plainCell, norefL, PV.scalar, scalarL, PV.cells, PV.solid, PV.one, PV.free, freeL, fillP, splice, Nat.reduceAdd, Nat.reduceMul, Nat.reduceSub, Nat.reduceLeDiff, Nat.reduceLT, Int.reduceToNat, Int.reduceEq, Int.reduceLT, Int.reduceLE, Int.reduceNeg, E0_vc, vaN, PV.avoid, avoidL, Nat.reduceGT, W41, RB0]
  exact hK
 simp only [awpBFn, Try.ntmps41, List.length_cons, List.length_nil, Nat.reduceAdd, Nat.reduceSub, List.replicate_succ, List.replicate_zero, List.cons_append, List.nil_append, List.map_cons, List.map_nil]
 by_cases h2 : l.length < 2
 ·have h2' : (l.length : Int) < 2 := by omega
  have he : cmpt l = l := by
   match l, h2 with
   | [], _ => rfl
   | [a], _ => rfl
   | a :: b :: l, h => simp only [List.length_cons] at h; omega
  simp -implicitDefEqProofs (maxSteps := 2000000) only [R0, R1, R2, R3, R4, R5, R6, R7, R8, R9, R10, R11, R12, R13, R14, R15, R16, PV.strip, stripL, PV.noref, ri, feedL, feeds, Nat.reduceBEq, Array.toList, ↓reduceIte, forall_const, implies_true, Nat.reduceEqDiff, reduceCtorEq, alP, bxP, bsP, ifP, quiet, riD, bs_l, PV.isRef, plainCell, norefL, PV.scalar, scalarL, PV.cells, PV.solid, PV.one, PV.free, freeL, fillP, splice, Nat.reduceAdd, Nat.reduceMul, Nat.reduceSub, Nat.reduceLeDiff, Nat.reduceLT, Int.reduceToNat, Int.reduceEq, Int.reduceLT, Int.reduceLE, Int.reduceNeg, E0_vc, vaN, PV.avoid, avoidL, Nat.reduceGT, W41, h2', RB0]
  have := hK rest
  rw [he] at this; exact this
 have h2' : ¬ (l.length : Int) < 2 := by omega
 simp -implicitDefEqProofs (maxSteps := 2000000) only [R0, R1, R2, R3, R4, R5, R6, R7, R8, R9, R10, R11, R12, R13, R14, R15, R16, PV.strip, stripL, PV.noref, ri, feedL, feeds, Nat.reduceBEq, Array.toList, ↓reduceIte, forall_const, implies_true, Nat.reduceEqDiff, reduceCtorEq, alP, bxP, bsP, ifP, quiet, riD, bs_l, PV.isRef, plainCell, norefL, PV.scalar, scalarL, PV.cells, PV.solid, PV.one, PV.free, freeL, fillP, splice, Nat.reduceAdd, Nat.reduceMul, Nat.reduceSub, Nat.reduceLeDiff, Nat.reduceLT, Int.reduceToNat, Int.reduceEq, Int.reduceLT, Int.reduceLE, Int.reduceNeg, E0_vc, vaN, PV.avoid, avoidL, Nat.reduceGT, W41, h2', RB0]
 refine loopB_by (fun k : Nat => [.rs 2 1 0 l.length cap, .junk, .junk, vI k, .junk, .junk, .junk, .junk, .junk, .junk, .junk, .junk, .junk, .junk, .junk, .junk, .junk, .junk, .junk, .junk, .junk, .junk, .junk, .junk, .junk, .junk, .junk, .junk, .junk, .junk, .junk, .junk, .junk, .junk, .junk, .junk, .junk, .junk, .junk, .junk, .junk, .junk, .junk, .junk, .junk, .junk, .junk, .junk, .junk, .junk, .junk, .junk, .junk, .junk, .junk, .junk, .junk, .junk, .junk, .junk, .junk]) (fun _ => [.live c0, .live (refs2 l ++ rest)]) (fun k => 1 ≤ k ∧ k ≤ l.length ∧ cmpt (l.take k) = l.take k) (fun k => l.length - k) 1 ?_ ?_ ?_
 ·simp only [RG0, RG1, Nat.reduceAdd, ltL, PV.lt, Blk.lt, Nat.reduceLT, Nat.reduceLeDiff, Wk_rfl, ltL_vI, wk_sl]; rfl
 ·refine ⟨by omega, by omega, ?_⟩
  match l with
  | [] => rfl
  | a :: l => rfl
 intro k hP
 have p1 := hP.1; have p2 := hP.2.1; have p3 := hP.2.2
 by_cases hk : k < l.length
 case neg =>
  have hk' : ¬ (k : Int) < l.length := by omega
  have he : cmpt l = l := by
   have : k = l.length := by omega
   rw [this, List.take_length] at p3; exact p3
  simp -implicitDefEqProofs (maxSteps := 2000000) only [R0, R1, R2, R3, R4, R5, R6, R7, R8, R9, R10, R11, R12, R13, R14, R15, R16, PV.strip, stripL, PV.noref, ri, feedL, feeds, Nat.reduceBEq, Array.toList, ↓reduceIte, forall_const, implies_true, Nat.reduceEqDiff, reduceCtorEq, alP, bxP, bsP, ifP, quiet, riD, bs_l, PV.isRef, plainCell, norefL, PV.scalar, scalarL, PV.cells, PV.solid, PV.one, PV.free, freeL, fillP, splice, Nat.reduceAdd, Nat.reduceMul, Nat.reduceSub, Nat.reduceLeDiff, Nat.reduceLT, Int.reduceToNat, Int.reduceEq, Int.reduceLT, Int.reduceLE, Int.reduceNeg, E0_vc, vaN, PV.avoid, avoidL, Nat.reduceGT, W41, hk', RB0]
  have := hK rest
  rw [he] at this; exact this
 have hk' : (k : Int) < l.length := by omega
 have hk1 : ((k : Int) - 1).toNat = k - 1 := by omega
 have a1 := refsB_at (B := rest) hk
 have a2 := refsB_at (B := rest) (show k - 1 < l.length by omega)
 have hgo := cmpt_go (show 0 < k by omega) hk
 by_cases heq : l.getD k noRef = l.getD (k - 1) noRef
 case neg =>
  have heq2 : ¬ l.getD (k - 1) noRef = l.getD k noRef := fun h => heq h.symm
  simp -implicitDefEqProofs (maxSteps := 2000000) only [R0, R1, R2, R3, R4, R5, R6, R7, R8, R9, R10, R11, R12, R13, R14, R15, R16, PV.strip, stripL, PV.noref, ri, feedL, feeds, Nat.reduceBEq, Array.toList, ↓reduceIte, forall_const, implies_true, Nat.reduceEqDiff, reduceCtorEq, alP, bxP, bsP, ifP, quiet, riD, bs_l, PV.isRef, plainCell, norefL, PV.scalar, scalarL, PV.cells, PV.solid, PV.one, PV.free, freeL, fillP, splice, Nat.reduceAdd, Nat.reduceMul, Nat.reduceSub, Nat.reduceLeDiff, Nat.reduceLT, Int.reduceToNat, Int.reduceEq, Int.reduceLT, Int.reduceLE, Int.reduceNeg, E0_vc, vaN, PV.avoid, avoidL, Nat.reduceGT, W41, hk', hk1, a1, a2, heq, Int.toNat_natCast, RB0]
  refine ⟨.inl (by decide), by omega, by rw [List.length_append, refs2_len]; omega, by unfold inI64; omega, by omega, by rw [List.length_append, refs2_len]; omega, by unfold inI64; omega, k + 1, ⟨by omega, by omega, ?_⟩, by omega, ?_⟩
  ·rw [hgo, if_neg heq2, p3, (take_two (show 0 < k by omega) hk).1, (take_two (show 0 < k by omega) hk).2, List.append_assoc]; rfl
  ·simp only [RG0, RG1, Nat.reduceAdd, ltL, PV.lt, Blk.lt, Nat.reduceLT, Nat.reduceLeDiff, Wk_rfl, ltL_vI, wk_sl] <;> omega
 have hkc : ¬ k = cap := by omega
 simp -implicitDefEqProofs (maxSteps := 2000000) only [R0, R1, R2, R3, R4, R5, R6, R7, R8, R9, R10, R11, R12, R13, R14, R15, R16, PV.strip, stripL, PV.noref, ri, feedL, feeds, Nat.reduceBEq, Array.toList, ↓reduceIte, forall_const, implies_true, Nat.reduceEqDiff, reduceCtorEq, alP, bxP, bsP, ifP, quiet, riD, bs_l, PV.isRef, plainCell, norefL, PV.scalar, scalarL, PV.cells, PV.solid, PV.one, PV.free, freeL, fillP, splice, Nat.reduceAdd, Nat.reduceMul, Nat.reduceSub, Nat.reduceLeDiff, Nat.reduceLT, Int.reduceToNat, Int.reduceEq, Int.reduceLT, Int.reduceLE, Int.reduceNeg, E0_vc, vaN, PV.avoid, avoidL, Nat.reduceGT, W41, hk', hk1, a1, a2, heq, hkc, Int.toNat_natCast, RB0]
 refine ⟨.inl (by decide), by omega, by rw [List.length_append, refs2_len]; omega, by unfold inI64; omega, by omega, by rw [List.length_append, refs2_len]; omega, by omega, ?_⟩
 refine loopB_by (fun x : CpS => [.rs 2 1 0 l.length cap, .junk, .junk, vI x.k, .rs 2 1 (k * 2) (l.length - k) (cap - k), vI x.j, .junk, .junk, .junk, .junk, .junk, .junk, .junk, .junk, .junk, .junk, .junk, .junk, .junk, .junk, .junk, .junk, .junk, .junk, .junk, .junk, .junk, .junk, .junk, .junk, .junk, .junk, .junk, .junk, .junk, .junk, .junk, .junk, .junk, .junk, .junk, .junk, .junk, .junk, .junk, .junk, .junk, .junk, .junk, .junk, .junk, .junk, .junk, .junk, .junk, .junk, .junk, .junk, .junk, .junk, .junk]) (fun x => [.live c0, .live (refs2 x.cur ++ rest)])
  (fun x => x.cur.length = l.length ∧ 1 ≤ x.j ∧ k + x.j ≤ l.length ∧ k ≤ x.k ∧ x.k + 1 ≤ k + x.j ∧ x.cur.take x.k = cmpt (l.take (k + x.j)) ∧ ∀ i, k + x.j ≤ i + 1 → x.cur.getD i noRef = l.getD i noRef) (fun x => l.length - x.j) ⟨1, k, l⟩ ?_ ?_ ?_
 ·simp only [RG0, RG1, Nat.reduceAdd, ltL, PV.lt, Blk.lt, Nat.reduceLT, Nat.reduceLeDiff, Wk_rfl, ltL_vI, wk_sl]; rfl
 ·exact ⟨rfl, by simp only; omega, by simp only; omega, by simp only; omega, by simp only; omega, by simp only; rw [hgo, if_pos heq.symm, List.append_nil]; exact p3.symm, fun i _ => rfl⟩
 intro x hP
 obtain ⟨j, m, cur⟩ := x
 have q1 : cur.length = l.length := hP.1
 have q2 : 1 ≤ j := hP.2.1
 have q3 : k + j ≤ l.length := hP.2.2.1
 have q4 : k ≤ m := hP.2.2.2.1
 have q5 : m + 1 ≤ k + j := hP.2.2.2.2.1
 have q6 : cur.take m = cmpt (l.take (k + j)) := hP.2.2.2.2.2.1
 have q7 : ∀ i, k + j ≤ i + 1 → cur.getD i noRef = l.getD i noRef := hP.2.2.2.2.2.2
 have hnk : ((l.length - k : Nat) : Int) = (l.length : Int) - k := by omega
 by_cases hj : k + j < l.length
 case neg =>
  have hj' : ¬ (j : Int) < ((l.length - k : Nat) : Int) := by omega
  have hmc : ¬ m = cap := by omega
  have h0c : ¬ 0 = cap := by omega
  simp -implicitDefEqProofs (maxSteps := 2000000) only [R0, R1, R2, R3, R4, R5, R6, R7, R8, R9, R10, R11, R12, R13, R14, R15, R16, PV.strip, stripL, PV.noref, ri, feedL, feeds, Nat.reduceBEq, Array.toList, ↓reduceIte, forall_const, implies_true, Nat.reduceEqDiff, reduceCtorEq, alP, bxP, bsP, ifP, quiet, riD, bs_l, PV.isRef, plainCell, norefL, PV.scalar, scalarL, PV.cells, PV.solid, PV.one, PV.free, freeL, fillP, splice, Nat.reduceAdd, Nat.reduceMul, Nat.reduceSub, Nat.reduceLeDiff, Nat.reduceLT, Int.reduceToNat, Int.reduceEq, Int.reduceLT, Int.reduceLE, Int.reduceNeg, E0_vc, vaN, PV.avoid, avoidL, Nat.reduceGT, W41, hj', hmc, h0c, Nat.sub_zero, Int.toNat_natCast, RB0]
  have he : cmpt l = cur.take m := by
   have : k + j = l.length := by omega
   rw [q6, this, List.take_length]
  have hlen : (cmpt l).length = m := by rw [he, List.length_take]; omega
  refine ⟨by omega, by kernel_rfl, by kernel_rfl, by rw [List.length_append, refs2_len]; omega, by omega, ?_⟩
  rw [List.take_append_of_le_length (by rw [refs2_len]; omega), refs2_take, ← he, List.append_assoc]
  have := hK (zeros (.agg [vI 0, .val (.string { data := #[] })]) (l.length - m) 2 ++ List.drop (m * 2 + (zeros (.agg [vI 0, .val (.string { data := #[] })]) (l.length - m) 2).length) (refs2 cur ++ rest))
  rw [hlen] at this
  exact this
 have hj' : (j : Int) < ((l.length - k : Nat) : Int) := by omega
 have hj1 : ((j : Int) - 1).toNat = j - 1 := by omega
 have b1 : List.take 2 (List.drop (k * 2 + j * 2) (refs2 cur ++ rest)) = [vI (l.getD (k + j) noRef).t, vS (l.getD (k + j) noRef).n] := by
  rw [← Nat.add_mul, refsB_at (by omega), q7 (k + j) (by omega)]
 have b2 : List.take 2 (List.drop (k * 2 + (j - 1) * 2) (refs2 cur ++ rest)) = [vI (l.getD (k + j - 1) noRef).t, vS (l.getD (k + j - 1) noRef).n] := by
  rw [← Nat.add_mul, show k + (j - 1) = k + j - 1 by omega, refsB_at (by omega), q7 (k + j - 1) (by omega)]
 have hgo2 := cmpt_go (show 0 < k + j by omega) hj
 by_cases heq3 : l.getD (k + j) noRef = l.getD (k + j - 1) noRef
 ·simp -implicitDefEqProofs (maxSteps := 2000000) only [R0, R1, R2, R3, R4, R5, R6, R7, R8, R9, R10, R11, R12, R13, R14, R15, R16, PV.strip, stripL, PV.noref, ri, feedL, feeds, Nat.reduceBEq, Array.toList, ↓reduceIte, forall_const, implies_true, Nat.reduceEqDiff, reduceCtorEq, alP, bxP, bsP, ifP, quiet, riD, bs_l, PV.isRef, plainCell, norefL, PV.scalar, scalarL, PV.cells, PV.solid, PV.one, PV.free, freeL, fillP, splice, Nat.reduceAdd, Nat.reduceMul, Nat.reduceSub, Nat.reduceLeDiff, Nat.reduceLT, Int.reduceToNat, Int.reduceEq, Int.reduceLT, Int.reduceLE, Int.reduceNeg, E0_vc, vaN, PV.avoid, avoidL, Nat.reduceGT, W41, hj', hj1, b1, b2, heq3, Int.toNat_natCast, RB0]
  refine ⟨.inl (by decide), by omega, by rw [List.length_append, refs2_len]; omega, by unfold inI64; omega, by omega, by rw [List.length_append, refs2_len]; omega, by unfold inI64; omega, ⟨j + 1, m, cur⟩, ⟨q1, by simp only; omega, by simp only; omega, q4, by simp only; omega, ?_, fun i hi => q7 i (by simp only at hi; omega)⟩, by simp only; omega, ?_⟩
  ·simp only
   rw [← Nat.add_assoc, hgo2, if_pos heq3.symm, List.append_nil]; exact q6
  ·simp only [RG0, RG1, Nat.reduceAdd, ltL, PV.lt, Blk.lt, Nat.reduceLT, Nat.reduceLeDiff, Wk_rfl, ltL_vI, wk_sl] <;> omega
 ·have b3 := fun r => refsB_set (l := cur) (B := rest) (k := m) (by omega) r
  have heq4 : ¬ l.getD (k + j - 1) noRef = l.getD (k + j) noRef := fun h => heq3 h.symm
  simp -implicitDefEqProofs (maxSteps := 2000000) only [R0, R1, R2, R3, R4, R5, R6, R7, R8, R9, R10, R11, R12, R13, R14, R15, R16, PV.strip, stripL, PV.noref, ri, feedL, feeds, Nat.reduceBEq, Array.toList, ↓reduceIte, forall_const, implies_true, Nat.reduceEqDiff, reduceCtorEq, alP, bxP, bsP, ifP, quiet, riD, bs_l, PV.isRef, plainCell, norefL, PV.scalar, scalarL, PV.cells, PV.solid, PV.one, PV.free, freeL, fillP, splice, Nat.reduceAdd, Nat.reduceMul, Nat.reduceSub, Nat.reduceLeDiff, Nat.reduceLT, Int.reduceToNat, Int.reduceEq, Int.reduceLT, Int.reduceLE, Int.reduceNeg, E0_vc, vaN, PV.avoid, avoidL, Nat.reduceGT, W41, hj', hj1, b1, b2, heq3, Int.toNat_natCast, RB0]
  refine ⟨.inl (by decide), by omega, by rw [List.length_append, refs2_len]; omega, by unfold inI64; omega, by omega, by rw [List.length_append, refs2_len]; omega, by omega, by rw [List.length_append, refs2_len]; omega, by omega, by rw [List.length_append, refs2_len]; omega, by unfold inI64; omega, by unfold inI64; omega, ⟨j + 1, m + 1, cur.set m (l.getD (k + j) noRef)⟩, ⟨by simp only [List.length_set]; exact q1, by simp only; omega, by simp only; omega, by simp only; omega, by simp only; omega, ?_, fun i hi => ?_⟩, by simp only; omega, ?_⟩
  ·simp only
   rw [← Nat.add_assoc, hgo2, if_neg heq4, ← q6, List.take_succ, List.take_set_of_le (Nat.le_refl _), List.getElem?_set_self (by omega)]; rfl
  ·simp only at hi ⊢
   rw [List.getD_eq_getElem?_getD, List.getElem?_set_ne (by omega), ← List.getD_eq_getElem?_getD]
   exact q7 i (by omega)
  ·have b4 := b3 (l.getD (k + j) noRef)
   simp only [splice, List.length_cons, List.length_nil, Nat.reduceAdd, Nat.zero_add] at b4
   simp only [RG0, RG1, Nat.reduceAdd, ltL, PV.lt, Blk.lt, Nat.reduceLT, Nat.reduceLeDiff, Wk_rfl, ltL_vI, wk_sl, b4] <;> omega
end Go.Ve.H
end
