/- weirlaw30.HistTexts: part of the proof (a value semantics for the model's code, and the functions told by it). -/
import Derived.Test.YtdfajmeabnmhjaaGreatDoorA26
set_option linter.unusedSimpArgs false
set_option linter.unusedVariables false
set_option linter.deprecated false
set_option linter.unusedSectionVars false
set_option linter.defProp false
section
set_option maxRecDepth 10000
set_option maxHeartbeats 8000000
namespace Go.Ve.H
open Go Go.Proofs Go.Ve
def cntH (h : Hist) (b : Bool) : List Row → Int
 | [] => 0
 | r :: l => (if hldB h r.f = b then r.c else 0) + cntH h b l
theorem cntH_app (h : Hist) (b : Bool) : ∀ l l' : List Row, cntH h b (l ++ l') = cntH h b l + cntH h b l'
 | [], l' => by simp [cntH]
 | r :: l, l' => by rw [List.cons_append, cntH, cntH_app h b l l', cntH]; omega
theorem cntH_pos (h : Hist) (b : Bool) : ∀ {l : List Row}, (∀ r ∈ l, 1 ≤ r.c) → 0 ≤ cntH h b l
 | [], _ => by simp [cntH]
 | r :: l, hc => by
  have := cntH_pos h b (l := l) (fun r hr => hc r (by simp [hr]))
  have := hc r (by simp)
  rw [cntH]; split <;> omega
theorem okRows_c : ∀ {n left : Int} {p : Option Fin} {l : List Row}, okRows n left p l = true → ∀ r ∈ l, 1 ≤ r.c ∧ finOk r.f = true ∧ r.f.n = n
 | _, _, _, [], _, r, hr => by simp at hr
 | n, left, p, x :: l, h, r, hr => by
  rw [okRows_cons] at h
  simp only [Bool.and_eq_true, decide_eq_true_eq] at h
  rcases List.mem_cons.1 hr with rfl | hr
  ·exact ⟨h.1.1.1.1.1, h.1.1.1.2, h.1.1.2⟩
  ·exact okRows_c h.2 r hr
theorem okRows_sum (hh : Hist) : ∀ {n left : Int} {p : Option Fin} {l : List Row}, 0 ≤ left → okRows n left p l = true → cntH hh true l + cntH hh false l ≤ left
 | _, _, _, [], h0, _ => by simp [cntH]; exact h0
 | n, left, p, x :: l, h0, h => by
  rw [okRows_cons] at h
  simp only [Bool.and_eq_true, decide_eq_true_eq] at h
  have := okRows_sum hh (by omega) h.2
  rw [cntH, cntH]
  cases hldB hh x.f <;> simp <;> omega
structure OkH (h : Hist) : Prop where
 name : isName h.name = true
 q0 : 1 ≤ h.quant
 q1 : h.quant ≤ 3
 refs : okRefs h.refs = true
 rows : okRows h.refs.length 9223372036854775807 none h.rows = true
 cond : checkC h.cond = 0
theorem okH_inv {h : Hist} (e : okH h = true) : OkH h := by
 unfold okH at e
 simp only [Bool.and_eq_true, decide_eq_true_eq] at e
 exact ⟨e.1.1.1.1.1.1, e.1.1.1.1.1.2, e.1.1.1.1.2, e.1.1.1.2, e.1.1.2, e.1.2⟩
theorem OkH.len {h : Hist} (e : OkH h) : (h.refs.length : Int) ≤ 48 := by
 have := e.refs
 unfold okRefs at this
 simp only [Bool.and_eq_true, decide_eq_true_eq] at this
 exact this.2
def posN (h : Hist) : Int := cntH h true h.rows
def negN (h : Hist) : Int := cntH h false h.rows
theorem OkH.sums {h : Hist} (e : OkH h) : 0 ≤ posN h ∧ 0 ≤ negN h ∧ posN h + negN h ≤ 9223372036854775807 :=
 ⟨cntH_pos h true fun r hr => (okRows_c e.rows r hr).1, cntH_pos h false fun r hr => (okRows_c e.rows r hr).1, okRows_sum h (by omega) e.rows⟩
theorem cntH_take {h : Hist} (e : OkH h) (b : Bool) (i : Nat) : 0 ≤ cntH h b (h.rows.take i) ∧ cntH h b (h.rows.take i) ≤ 9223372036854775807 := by
 have hs := e.sums
 have h1 := cntH_pos h b (l := h.rows.take i) fun r hr => (okRows_c e.rows r (List.mem_of_mem_take hr)).1
 have h2 := cntH_pos h b (l := h.rows.drop i) fun r hr => (okRows_c e.rows r (List.mem_of_mem_drop hr)).1
 have h3 := cntH_app h b (h.rows.take i) (h.rows.drop i)
 rw [List.take_append_drop] at h3
 refine ⟨h1, ?_⟩
 cases b
 ·have : cntH h false h.rows = negN h := rfl
  omega
 ·have : cntH h true h.rows = posN h := rfl
  omega
theorem cntH_succ (h : Hist) (b : Bool) {i : Nat} (hi : i < h.rows.length) : cntH h b (h.rows.take (i + 1)) = cntH h b (h.rows.take i) + (if hldB h (h.rows.getD i noRow).f = b then (h.rows.getD i noRow).c else 0) := by
 have hn : h.rows[i] = h.rows.getD i noRow := by rw [List.getD_eq_getElem?_getD, List.getElem?_eq_getElem hi]; rfl
 rw [List.take_succ_eq_append_getElem hi, cntH_app, hn]
 simp [cntH]
def cnB (h : Hist) : List PV := if okH h = true then [vI (posN h), vI (negN h), vI 0] else [vI 0, vI 0, vI 300]
def cnF := on1h fun h => ([szH h], .tuple (cnB h))
def pCnF := cnF
def rCnF := cnF
theorem cnE {n : ByteArray} {q : Int} {r : List Ref} {s : List Row} {c : List Node} {j1 j2 j3 : Nat} {o1 o2 o3 : Bool} (h1 : j1 = 2 ∨ r = []) (h2 : j2 = 50 ∨ s = []) (h3 : j3 = 6 ∨ c = []) :
  cnF [.agg [vS n, vI q, .sl j1 (r.map refP) o1, .sl j2 (s.map rowP) o2, .sl j3 (c.map nodeP) o3]] = some ([szH ⟨n, q, r, s, c⟩], .tuple (cnB ⟨n, q, r, s, c⟩)) := by
 simp only [cnF, on1h, histD_of _ _ _ h1 h2 h3]
theorem pHCheckE {n : ByteArray} {q : Int} {r : List Ref} {s : List Row} {c : List Node} {j1 j2 j3 : Nat} {o1 o2 o3 : Bool} (h1 : j1 = 2 ∨ r = []) (h2 : j2 = 50 ∨ s = []) (h3 : j3 = 6 ∨ c = []) :
  pHCheckF [.agg [vS n, vI q, .sl j1 (r.map refP) o1, .sl j2 (s.map rowP) o2, .sl j3 (c.map nodeP) o3]] = some ([szH ⟨n, q, r, s, c⟩], vI (checkH ⟨n, q, r, s, c⟩)) := ckhE h1 h2 h3
theorem rHCheckE {n : ByteArray} {q : Int} {r : List Ref} {s : List Row} {c : List Node} {j1 j2 j3 : Nat} {o1 o2 o3 : Bool} (h1 : j1 = 2 ∨ r = []) (h2 : j2 = 50 ∨ s = []) (h3 : j3 = 6 ∨ c = []) :
  rHCheckF [.agg [vS n, vI q, .sl j1 (r.map refP) o1, .sl j2 (s.map rowP) o2, .sl j3 (c.map nodeP) o3]] = some ([szH ⟨n, q, r, s, c⟩], vI (checkH ⟨n, q, r, s, c⟩)) := ckhE h1 h2 h3
theorem hHoldsE {n : ByteArray} {q : Int} {r : List Ref} {s : List Row} {c : List Node} {j1 j2 j3 : Nat} {o1 o2 o3 : Bool} (h1 : j1 = 2 ∨ r = []) (h2 : j2 = 50 ∨ s = []) (h3 : j3 = 6 ∨ c = []) (f : Fin) :
  hHoldsF [.agg [vS n, vI q, .sl j1 (r.map refP) o1, .sl j2 (s.map rowP) o2, .sl j3 (c.map nodeP) o3], .agg (vI f.n :: f.v.map vI)] = some ([szC c, r.length ≤ 48], vT (hldB ⟨n, q, r, s, c⟩ f)) := onhf_P _ _ _ _ h1 h2 h3 f
theorem wHoldsE {n : ByteArray} {q : Int} {r : List Ref} {s : List Row} {c : List Node} {j1 j2 j3 : Nat} {o1 o2 o3 : Bool} (h1 : j1 = 2 ∨ r = []) (h2 : j2 = 50 ∨ s = []) (h3 : j3 = 6 ∨ c = []) (f : Fin) :
  wHoldsF [.agg [vS n, vI q, .sl j1 (r.map refP) o1, .sl j2 (s.map rowP) o2, .sl j3 (c.map nodeP) o3], .agg (vI f.n :: f.v.map vI)] = some ([szC c, r.length ≤ 48, 0 ≤ f.n ∧ f.n ≤ 48 ∧ r.length ≤ f.n], vT (hldB ⟨n, q, r, s, c⟩ f)) := onhf_P _ _ _ _ h1 h2 h3 f
def D6 : FuncId → Option CB
 | 11 => some (.fn pHCheckF)
 | 14 => some (.fn hHoldsF)
 | _ => none
theorem D6_ok : AllB E0 D6 := fun g c h => by
 unfold D6 at h
 split at h <;> simp at h <;> subst h
 ·exact pHCheck_ok
 ·exact hHolds_ok
def W6 := And.intro @Tryz.results6 (And.intro @ag27 (And.intro @sz27 (And.intro @fa27_3 (And.intro @ag23 (And.intro @sz23 (And.intro @zd23 (And.intro @Tryz.underlying23 (And.intro @sz50 (And.intro @zd50 (And.intro @ag50 (And.intro @zp50 (And.intro @fa50_1 (And.intro @ag48 (And.intro @sz48 (And.intro @fa50_0 (And.intro @ag2 (And.intro @sz2 (And.intro @zd2 (And.intro @pHCheckE (@hHoldsE))))))))))))))))))))
theorem pCn_ok : Sound Tryz.prog G0 6 (conT (CB.fn pCnF).toCon) := by
 refine fn_of D6_ok mixed true Tryz.func6 (by decide) rfl _ ?_
 intro args ps r hq hp
 obtain ⟨p, h, rfl, hh, hx⟩ := on1h_inv hq
 obtain ⟨rfl, rfl⟩ := Prod.mk.inj hx
 have hz := hp (szH h) (by simp)
 refine ⟨by simp only [norefL, nr_hist hh, Bool.and_self], ?_⟩
 simp only [awpBFn, Tryz.ntmps6, List.length_cons, List.length_nil, Nat.reduceAdd, Nat.reduceSub, List.replicate_succ, List.replicate_zero, List.cons_append, List.nil_append, List.map_cons, List.map_nil]
 obtain ⟨j1, o1, j2, o2, j3, o3, rfl, k1, k2, k3⟩ := hh
 have e1 := fun x y z => pHCheckE (n := h.name) (q := h.quant) (o1 := x) (o2 := y) (o3 := z) k1 k2 k3
 have e2 := fun x y z => hHoldsE (n := h.name) (q := h.quant) (o1 := x) (o2 := y) (o3 := z) k1 k2 k3
 by_cases hok : okH h = true
 case neg =>
  have hno := checkH_no (by simpa using hok)
  simp -implicitDefEqProofs (maxSteps := 2000000) only [R0, R1, R2, R3, R4, R5, R6, R7, R8, R9, R10, R11, R12, R13, R14, R15, R16, PV.strip, stripL, PV.noref, ri, feedL, feeds, Nat.reduceBEq, Array.toList, ↓reduceIte, forall_const, implies_true, Nat.reduceEqDiff, reduceCtorEq, alP, bxP, bsP, ifP, quiet, riD, bs_l, PV.isRef, plainCell, norefL, PV.scalar, scalarL, PV.cells, PV.solid, PV.one, PV.free, freeL, fillP, splice, Nat.reduceAdd, Nat.reduceMul, Nat.reduceSub, Nat.reduceLeDiff, Nat.reduceLT, Int.reduceToNat, Int.reduceEq, Int.reduceLT, Int.reduceLE, Int.reduceNeg, E0_vc, vaN, PV.avoid, avoidL, Nat.reduceGT, W6, D6, List.length_map, e1, e2, hno, cnB, hok, RB0]
  exact hz
 have hyes := checkH_ok hok
 have ho := okH_inv hok
 have hl48 := ho.len
 have hrl : h.rows.length ≤ 1099511627776 := hz.2.2.1
 simp -implicitDefEqProofs (maxSteps := 2000000) only [R0, R1, R2, R3, R4, R5, R6, R7, R8, R9, R10, R11, R12, R13, R14, R15, R16, PV.strip, stripL, PV.noref, ri, feedL, feeds, Nat.reduceBEq, Array.toList, ↓reduceIte, forall_const, implies_true, Nat.reduceEqDiff, reduceCtorEq, alP, bxP, bsP, ifP, quiet, riD, bs_l, PV.isRef, plainCell, norefL, PV.scalar, scalarL, PV.cells, PV.solid, PV.one, PV.free, freeL, fillP, splice, Nat.reduceAdd, Nat.reduceMul, Nat.reduceSub, Nat.reduceLeDiff, Nat.reduceLT, Int.reduceToNat, Int.reduceEq, Int.reduceLT, Int.reduceLE, Int.reduceNeg, E0_vc, vaN, PV.avoid, avoidL, Nat.reduceGT, W6, D6, List.length_map, e1, e2, hyes, cnB, hok, RB0]
 refine ⟨hz, ?_⟩
 refine loopB_by (fun i : Nat => [.junk, .ptr 0 0, .junk, .junk, .junk, .junk, vI (cntH h true (h.rows.take i)), vI (cntH h false (h.rows.take i)), .junk, .junk, .junk, .junk, .junk, .junk, .junk, .junk, .sl j2 (h.rows.map rowP) false, vI h.rows.length, vI i, .junk, .junk, .junk, .junk, .junk, .junk, .junk, .junk, .junk, .junk, .junk, .junk, .junk, .junk, .junk, .junk, .junk, .junk]) (fun _ => [.live (histC h j1 j2 j3 (o1, o2, o3))])
  (fun i => i ≤ h.rows.length) (fun i => h.rows.length - i) 0 ?_ ?_ ?_
 ·simp only [RG0, RG1, Nat.reduceAdd, ltL, PV.lt, Blk.lt, Nat.reduceLT, Nat.reduceLeDiff, Wk_rfl, ltL_vI, wk_sl, List.take_zero, cntH, histC]
 ·exact Nat.zero_le _
 intro i hP
 have p1 : i ≤ h.rows.length := hP
 by_cases hi : i < h.rows.length
 case neg =>
  have hi' : ¬ (i : Int) < h.rows.length := by omega
  simp -implicitDefEqProofs (maxSteps := 2000000) only [R0, R1, R2, R3, R4, R5, R6, R7, R8, R9, R10, R11, R12, R13, R14, R15, R16, PV.strip, stripL, PV.noref, ri, feedL, feeds, Nat.reduceBEq, Array.toList, ↓reduceIte, forall_const, implies_true, Nat.reduceEqDiff, reduceCtorEq, alP, bxP, bsP, ifP, quiet, riD, bs_l, PV.isRef, plainCell, norefL, PV.scalar, scalarL, PV.cells, PV.solid, PV.one, PV.free, freeL, fillP, splice, Nat.reduceAdd, Nat.reduceMul, Nat.reduceSub, Nat.reduceLeDiff, Nat.reduceLT, Int.reduceToNat, Int.reduceEq, Int.reduceLT, Int.reduceLE, Int.reduceNeg, E0_vc, vaN, PV.avoid, avoidL, Nat.reduceGT, W6, D6, gd_row, rowP, List.length_map, Int.toNat_natCast, hi', e1, e2, cnB, hok, RB0]
  rw [List.take_of_length_le (by omega)]; rfl
 have hi' : (i : Int) < h.rows.length := by omega
 have hj2 : j2 = 50 := k2.resolve_right (by intro e; rw [e] at hi; simp at hi)
 have hs1 := cntH_succ h true hi
 have hs2 := cntH_succ h false hi
 have hb1 := cntH_take ho true (i + 1)
 have hb2 := cntH_take ho false (i + 1)
 simp -implicitDefEqProofs (maxSteps := 2000000) only [R0, R1, R2, R3, R4, R5, R6, R7, R8, R9, R10, R11, R12, R13, R14, R15, R16, PV.strip, stripL, PV.noref, ri, feedL, feeds, Nat.reduceBEq, Array.toList, ↓reduceIte, forall_const, implies_true, Nat.reduceEqDiff, reduceCtorEq, alP, bxP, bsP, ifP, quiet, riD, bs_l, PV.isRef, plainCell, norefL, PV.scalar, scalarL, PV.cells, PV.solid, PV.one, PV.free, freeL, fillP, splice, Nat.reduceAdd, Nat.reduceMul, Nat.reduceSub, Nat.reduceLeDiff, Nat.reduceLT, Int.reduceToNat, Int.reduceEq, Int.reduceLT, Int.reduceLE, Int.reduceNeg, E0_vc, vaN, PV.avoid, avoidL, Nat.reduceGT, W6, D6, histC, gd_row, rowP, PV.cells, tk48, tk48a, len48, hl48, strip_vI, List.replicate_zero, List.append_nil, List.drop_replicate, Nat.sub_self, List.length_map, Int.toNat_natCast, hi', e1, e2, cnB, hok, RB0]
 have hfl := (h.rows.getD i noRow).f.hl
 have hL : ∀ (A B : List PV), A.length + 2 ≤ (A ++ B).length + 1 + 1 := fun A B => by rw [List.length_append]; omega
 have hlm : 48 ≤ (List.map vI (h.rows.getD i noRow).f.v ++ List.replicate (50 - ((h.rows.getD i noRow).f.v.length + 1 + 1)) (PV.val (.int .i64 0))).length := by
  rw [List.length_append, List.length_map, hfl]; omega
 refine ⟨hj2, by omega, by omega, hfl, by omega, hlm, hz.2.2.2, by omega, fun hb => ?_, fun hb => ?_⟩
 ·have hb' : hldB h (h.rows.getD i noRow).f = true := hb
  rw [hb', if_pos rfl] at hs1
  rw [hb', if_neg (by decide)] at hs2
  refine ⟨by omega, by unfold inI64; omega, by unfold inI64; omega, i + 1, by omega, by omega, ?_⟩
  rw [hs1, hs2]
  simp only [RG0, RG1, Nat.reduceAdd, ltL, PV.lt, Blk.lt, Nat.reduceLT, Nat.reduceLeDiff, Wk_rfl, ltL_vI, wk_sl, histC, Int.add_zero] <;> first | omega | skip
  all_goals trace_state
 ·have hb' : hldB h (h.rows.getD i noRow).f = false := hb
  rw [hb', if_neg (by decide)] at hs1
  rw [hb', if_pos rfl] at hs2
  refine ⟨by omega, by unfold inI64; omega, by unfold inI64; omega, i + 1, by omega, by omega, ?_⟩
  rw [hs1, hs2]
  simp only [RG0, RG1, Nat.reduceAdd, ltL, PV.lt, Blk.lt, Nat.reduceLT, Nat.reduceLeDiff, Wk_rfl, ltL_vI, wk_sl, histC, Int.add_zero] <;> first | omega | skip
  all_goals trace_state
def D7 : FuncId → Option CB
 | 12 => some (.fn rHCheckF)
 | 15 => some (.fn wHoldsF)
 | _ => none
theorem D7_ok : AllB E0 D7 := fun g c h => by
 unfold D7 at h
 split at h <;> simp at h <;> subst h
 ·exact rHCheck_ok
 ·exact wHolds_ok
def W7 := And.intro @Tryz.results7 (And.intro @ag27 (And.intro @sz27 (And.intro @fa27_3 (And.intro @ag23 (And.intro @sz23 (And.intro @zd23 (And.intro @Tryz.underlying23 (And.intro @sz50 (And.intro @zd50 (And.intro @fa50_1 (And.intro @ag48 (And.intro @sz48 (And.intro @fa50_0 (And.intro @ag2 (And.intro @sz2 (And.intro @zd2 (And.intro @rHCheckE (@wHoldsE))))))))))))))))))
theorem rCn_ok : Sound Tryz.prog G0 7 (conT (CB.fn rCnF).toCon) := by
 refine fn_of D7_ok mixed true Tryz.func7 (by decide) rfl _ ?_
 intro args ps r hq hp
 obtain ⟨p, h, rfl, hh, hx⟩ := on1h_inv hq
 obtain ⟨rfl, rfl⟩ := Prod.mk.inj hx
 have hz := hp (szH h) (by simp)
 refine ⟨by simp only [norefL, nr_hist hh, Bool.and_self], ?_⟩
 simp only [awpBFn, Tryz.ntmps7, List.length_cons, List.length_nil, Nat.reduceAdd, Nat.reduceSub, List.replicate_succ, List.replicate_zero, List.cons_append, List.nil_append, List.map_cons, List.map_nil]
 obtain ⟨j1, o1, j2, o2, j3, o3, rfl, k1, k2, k3⟩ := hh
 have e1 := fun x y z => rHCheckE (n := h.name) (q := h.quant) (o1 := x) (o2 := y) (o3 := z) k1 k2 k3
 have e2 := fun x y z => wHoldsE (n := h.name) (q := h.quant) (o1 := x) (o2 := y) (o3 := z) k1 k2 k3
 by_cases hok : okH h = true
 case neg =>
  have hno := checkH_no (by simpa using hok)
  simp -implicitDefEqProofs (maxSteps := 2000000) only [R0, R1, R2, R3, R4, R5, R6, R7, R8, R9, R10, R11, R12, R13, R14, R15, R16, PV.strip, stripL, PV.noref, ri, feedL, feeds, Nat.reduceBEq, Array.toList, ↓reduceIte, forall_const, implies_true, Nat.reduceEqDiff, reduceCtorEq, alP, bxP, bsP, ifP, quiet, riD, bs_l, PV.isRef, plainCell, norefL, PV.scalar, scalarL, PV.cells, PV.solid, PV.one, PV.free, freeL, fillP, splice, Nat.reduceAdd, Nat.reduceMul, Nat.reduceSub, Nat.reduceLeDiff, Nat.reduceLT, Int.reduceToNat, Int.reduceEq, Int.reduceLT, Int.reduceLE, Int.reduceNeg, E0_vc, vaN, PV.avoid, avoidL, Nat.reduceGT, W7, D7, List.length_map, e1, e2, hno, cnB, hok, RB0]
  exact hz
 have hyes := checkH_ok hok
 have ho := okH_inv hok
 have hl48 := ho.len
 have hrl : h.rows.length ≤ 1099511627776 := hz.2.2.1
 simp -implicitDefEqProofs (maxSteps := 2000000) only [R0, R1, R2, R3, R4, R5, R6, R7, R8, R9, R10, R11, R12, R13, R14, R15, R16, PV.strip, stripL, PV.noref, ri, feedL, feeds, Nat.reduceBEq, Array.toList, ↓reduceIte, forall_const, implies_true, Nat.reduceEqDiff, reduceCtorEq, alP, bxP, bsP, ifP, quiet, riD, bs_l, PV.isRef, plainCell, norefL, PV.scalar, scalarL, PV.cells, PV.solid, PV.one, PV.free, freeL, fillP, splice, Nat.reduceAdd, Nat.reduceMul, Nat.reduceSub, Nat.reduceLeDiff, Nat.reduceLT, Int.reduceToNat, Int.reduceEq, Int.reduceLT, Int.reduceLE, Int.reduceNeg, E0_vc, vaN, PV.avoid, avoidL, Nat.reduceGT, W7, D7, List.length_map, e1, e2, hyes, cnB, hok, RB0]
 refine ⟨hz, ?_⟩
 refine loopB_by (fun i : Nat => [.junk, .ptr 0 0, .junk, .junk, .junk, .junk, vI (cntH h true (h.rows.take i)), vI (cntH h false (h.rows.take i)), vI i, .junk, .junk, .junk, .junk, .junk, .junk, .junk, .junk, .junk, .junk, .junk, .junk, .junk, .junk, .junk, .junk, .junk, .junk, .junk, .junk, .junk, .junk, .junk, .junk, .junk, .junk, .junk, .junk, .junk, .junk, .junk, .junk, .junk, .junk, .junk, .junk, .junk, .junk]) (fun _ => [.live (histC h j1 j2 j3 (o1, o2, o3))])
  (fun i => i ≤ h.rows.length) (fun i => h.rows.length - i) 0 ?_ ?_ ?_
 ·simp only [RG0, RG1, Nat.reduceAdd, ltL, PV.lt, Blk.lt, Nat.reduceLT, Nat.reduceLeDiff, Wk_rfl, ltL_vI, wk_sl, List.take_zero, cntH, histC]
 ·exact Nat.zero_le _
 intro i hP
 have p1 : i ≤ h.rows.length := hP
 by_cases hi : i < h.rows.length
 case neg =>
  have hi' : ¬ (i : Int) < h.rows.length := by omega
  simp -implicitDefEqProofs (maxSteps := 2000000) only [R0, R1, R2, R3, R4, R5, R6, R7, R8, R9, R10, R11, R12, R13, R14, R15, R16, PV.strip, stripL, PV.noref, ri, feedL, feeds, Nat.reduceBEq, Array.toList, ↓reduceIte, forall_const, implies_true, Nat.reduceEqDiff, reduceCtorEq, alP, bxP, bsP, ifP, quiet, riD, bs_l, PV.isRef, plainCell, norefL, PV.scalar, scalarL, PV.cells, PV.solid, PV.one, PV.free, freeL, fillP, splice, Nat.reduceAdd, Nat.reduceMul, Nat.reduceSub, Nat.reduceLeDiff, Nat.reduceLT, Int.reduceToNat, Int.reduceEq, Int.reduceLT, Int.reduceLE, Int.reduceNeg, E0_vc, vaN, PV.avoid, avoidL, Nat.reduceGT, W7, D7, histC, gd_row, rowP, List.length_map, Int.toNat_natCast, hi', e1, e2, cnB, hok, RB0]
  rw [List.take_of_length_le (by omega)]; rfl
 have hi' : (i : Int) < h.rows.length := by omega
 have hj2 : j2 = 50 := k2.resolve_right (by intro e; rw [e] at hi; simp at hi)
 have hs1 := cntH_succ h true hi
 have hs2 := cntH_succ h false hi
 have hb1 := cntH_take ho true (i + 1)
 have hb2 := cntH_take ho false (i + 1)
 have hmem : h.rows.getD i noRow ∈ h.rows := by
  rw [List.getD_eq_getElem?_getD, List.getElem?_eq_getElem hi]; exact List.getElem_mem hi
 obtain ⟨_, hf1, hf2⟩ := okRows_c ho.rows _ hmem
 have hf48 : 0 ≤ (h.rows.getD i noRow).f.n ∧ (h.rows.getD i noRow).f.n ≤ 48 := by
  simp only [finOk, Bool.and_eq_true, decide_eq_true_eq] at hf1; exact hf1.1
 simp -implicitDefEqProofs (maxSteps := 2000000) only [R0, R1, R2, R3, R4, R5, R6, R7, R8, R9, R10, R11, R12, R13, R14, R15, R16, PV.strip, stripL, PV.noref, ri, feedL, feeds, Nat.reduceBEq, Array.toList, ↓reduceIte, forall_const, implies_true, Nat.reduceEqDiff, reduceCtorEq, alP, bxP, bsP, ifP, quiet, riD, bs_l, PV.isRef, plainCell, norefL, PV.scalar, scalarL, PV.cells, PV.solid, PV.one, PV.free, freeL, fillP, splice, Nat.reduceAdd, Nat.reduceMul, Nat.reduceSub, Nat.reduceLeDiff, Nat.reduceLT, Int.reduceToNat, Int.reduceEq, Int.reduceLT, Int.reduceLE, Int.reduceNeg, E0_vc, vaN, PV.avoid, avoidL, Nat.reduceGT, W7, D7, histC, gd_row, rowP, PV.cells, tk48, tk48a, len48, hl48, strip_vI, List.replicate_zero, List.append_nil, List.drop_replicate, Nat.sub_self, List.length_map, Int.toNat_natCast, hi', e1, e2, cnB, hok, RB0]
 have hfl := (h.rows.getD i noRow).f.hl
 refine ⟨.inl (by decide), hj2, by omega, by omega, hz.2.2.2, by omega, ⟨hf48.1, hf48.2, by omega⟩, fun hb => ?_, fun hb => ?_⟩
 ·have hb' : hldB h (h.rows.getD i noRow).f = true := hb
  rw [hb', if_pos rfl] at hs1
  rw [hb', if_neg (by decide)] at hs2
  refine ⟨hj2, by omega, by omega, by unfold inI64; omega, by unfold inI64; omega, i + 1, by omega, by omega, ?_⟩
  rw [hs1, hs2]
  simp only [RG0, RG1, Nat.reduceAdd, ltL, PV.lt, Blk.lt, Nat.reduceLT, Nat.reduceLeDiff, Wk_rfl, ltL_vI, wk_sl, histC, Int.add_zero] <;> first | omega | skip
  all_goals trace_state
 ·have hb' : hldB h (h.rows.getD i noRow).f = false := hb
  rw [hb', if_neg (by decide)] at hs1
  rw [hb', if_pos rfl] at hs2
  refine ⟨hj2, by omega, by omega, by unfold inI64; omega, by unfold inI64; omega, i + 1, by omega, by omega, ?_⟩
  rw [hs1, hs2]
  simp only [RG0, RG1, Nat.reduceAdd, ltL, PV.lt, Blk.lt, Nat.reduceLT, Nat.reduceLeDiff, Wk_rfl, ltL_vI, wk_sl, histC, Int.add_zero] <;> first | omega | skip
  all_goals trace_state
end Go.Ve.H
end
