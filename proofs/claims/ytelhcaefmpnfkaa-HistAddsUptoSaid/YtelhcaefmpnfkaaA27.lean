/- weirlaw30.HistAdds (30.4, 30.6): for every two histograms the call returns true and both read afterwards as they read before: hist.Add answers as the reference does, twice alike, its answer is its holder's (it may be written into), and what is handed in stays. Condition: what comes in is together of bulk at most 1048576 (the statement's second form). -/
import Derived.Test.YtelhcaefmpnfkaaA26
import Derived.Test.YtelhcaefmpnfkaaRows
import Derived.WalkKit
import Derived.ProofKit
import Derived.OpenShut
import Derived.JoinedCond
import Derived.Deep.Slices
import Derived.Carry
import Derived.Handed
import Derived.RowKit
set_option linter.unusedSimpArgs false
set_option linter.unusedVariables false
set_option linter.deprecated false
set_option linter.unusedSectionVars false
set_option linter.defProp false
section
set_option maxRecDepth 10000
set_option maxHeartbeats 20000000
namespace Go.Ve.H
open Go Go.Proofs Go.Ve
def lawF : List PV → Option (List Prop × PV) := on2h fun a b => ([szH a, szH b, smallH a, smallH b], vT true)
def addK (args : List PV) (M : List Blk) (K : PV → List Blk → Prop) : Prop := addCT args M K
theorem addK_r (Y : Option Yd) (args : List PV) (M : List Blk) (K : PV → List Blk → Prop) : conY Y (.gen addCT addCT_mono) args M K = addK args M K := rfl
def spoK (args : List PV) (M : List Blk) (K : PV → List Blk → Prop) : Prop := eatT spT args M K
theorem spoK_r (Y : Option Yd) (args : List PV) (M : List Blk) (K : PV → List Blk → Prop) : conY Y (.gen (eatT spT) (eatT_mono spT_mono)) args M K = spoK args M K := rfl
theorem pAddE : True := trivial
theorem rAddE : True := trivial
theorem spoilE : True := trivial
theorem sameE' : True := trivial
theorem keptE' : True := trivial
theorem brwD_a (M : List Blk) (cs : List PV) : brwD M (.agg cs) = .agg (cs.map (brw M)) := rfl
theorem eat_c (M : List Blk) (s : Nat) (S : List Nat) : eatB M (s :: S) = eatB (M.set s (.frz [])) S := rfl
theorem eat_n (M : List Blk) : eatB M [] = M := rfl
theorem mR_b0 (f : Nat) (p : PV) : brwS 2 0 0 p (some (.live (mR [] f))) = .sl 2 [] false := mR_b [] f p
theorem mR_s0 (f : Nat) : RoomS 2 200000000 0 f (mR [] f) := by
 have := mR_s [] f (Nat.zero_le _)
 simpa using this
theorem nrefs (l : List Ref) : norefL (l.map refP) = true := by simp [norefL_eq, nr_map nr_ref, nr_ref]
theorem nrows (l : List Row) : norefL (l.map rowP) = true := by simp [norefL_eq, nr_map nr_row, nr_row]
theorem nnodes (l : List Node) : norefL (l.map nodeP) = true := by simp [norefL_eq, nr_map nr_node, nr_node]
theorem same_t {a b : Hist} (h : SameHist a b) : decide (SameHist a b) = true := decide_eq_true h
theorem mrg_len : ∀ (a b : List Row), (mrgR a b).length ≤ a.length + b.length
 | [], b => by cases b <;> simp [mrgR]
 | x :: a, [] => by simp [mrgR]
 | x :: a, y :: b => by
  rw [mrgR]
  have h1 := mrg_len a (y :: b)
  have h2 := mrg_len a b
  have h3 := mrg_len (x :: a) b
  simp only [List.length_cons] at h1 h2 h3 ⊢
  split
  ·simp only [List.length_cons]; omega
  ·split <;> simp only [List.length_cons] <;> omega
termination_by a b => a.length + b.length
theorem keptS (a : Hist) {l1 l2 l3 : Nat} {p1 p2 p3 : Bool} (m1 : l1 = 2 ∨ a.refs = []) (m2 : l2 = 50 ∨ a.rows = []) (m3 : l3 = 6 ∨ a.cond = []) :
  keptF [.agg [vS a.name, vI a.quant, .slt 2 (a.refs.map refP) [refP endRef], .slt 50 (a.rows.map rowP) [rowP endRow], .slt 6 (a.cond.map nodeP) [nodeP endNode]], .agg [vS a.name, vI a.quant, .sl l1 (a.refs.map refP) p1, .sl l2 (a.rows.map rowP) p2, .sl l3 (a.cond.map nodeP) p3]] = some ([lenH a, lenH a], vT true) :=
 (keptE a m1 m2 m3).trans (by rw [same_t (a := a) ⟨rfl, rfl, rfl, rfl, rfl⟩])
theorem sameS {n : ByteArray} {q : Int} (r : List Ref) (s : List Row) (c : List Node) {j1 j2 j3 l1 l2 l3 : Nat} {o1 o2 o3 p1 p2 p3 : Bool} (k1 : j1 = 2 ∨ r = []) (k2 : j2 = 50 ∨ s = []) (k3 : j3 = 6 ∨ c = []) (m1 : l1 = 2 ∨ r = []) (m2 : l2 = 50 ∨ s = []) (m3 : l3 = 6 ∨ c = []) :
  sameF [.agg [vS n, vI q, .sl j1 (r.map refP) o1, .sl j2 (s.map rowP) o2, .sl j3 (c.map nodeP) o3], .agg [vS n, vI q, .sl l1 (r.map refP) p1, .sl l2 (s.map rowP) p2, .sl l3 (c.map nodeP) p3]] = some ([lenH ⟨n, q, r, s, c⟩], vT true) :=
 (sameE k1 k2 k3 m1 m2 m3).trans (by rw [same_t (a := ⟨n, q, r, s, c⟩) ⟨rfl, rfl, rfl, rfl, rfl⟩])
theorem rAns_ok {a b : Hist} (h0 : (addH a b).2 = 0) {j1 j2 j3 l1 l2 l3 : Nat} (k1 : j1 = 2 ∨ a.refs = []) (k2 : j2 = 50 ∨ a.rows = []) (k3 : j3 = 6 ∨ a.cond = []) (m1 : l1 = 2 ∨ b.refs = []) (m2 : l2 = 50 ∨ b.rows = []) (m3 : l3 = 6 ∨ b.cond = []) :
  ∃ jr jm, (jr = 2 ∨ RR a b = []) ∧ (jm = 50 ∨ mrgR a.rows b.rows = []) ∧ ∀ x1 x2 x3 y1 y2 y3 : Bool, rAddF [.agg [vS a.name, vI a.quant, .sl j1 (a.refs.map refP) x1, .sl j2 (a.rows.map rowP) x2, .sl j3 (a.cond.map nodeP) x3], .agg [vS b.name, vI b.quant, .sl l1 (b.refs.map refP) y1, .sl l2 (b.rows.map rowP) y2, .sl l3 (b.cond.map nodeP) y3]] = some ([szH a, szH b, (a.rows ++ b.rows).length ≤ 100000], .tuple [.agg [vS a.name, vI a.quant, .sl jr ((RR a b).map refP) false, .sl jm ((mrgR a.rows b.rows).map rowP) false, .sl j3 (a.cond.map nodeP) false], vI 0]) := by
 obtain ⟨o1, o2⟩ := addH_ok h0
 have h80 : ¬ (a.rows ≠ [] ∧ b.rows ≠ [] ∧ a.refs ≠ b.refs) := by
  intro h
  unfold addH at h0
  rw [if_neg (by rw [o1, o2]; simp), if_pos (.inr h)] at h0
  cases h0
 obtain ⟨jm, e2, hm⟩ := rowsV_eq (mrgR a.rows b.rows)
 have main : ∀ jr : Nat, (∀ x1 x2 x3 y1 y2 y3 : Bool, (if b.rows = [] then (if a.rows = [] then .sl 0 [] false else refsV (.agg [vS a.name, vI a.quant, .sl j1 (a.refs.map refP) x1, .sl j2 (a.rows.map rowP) x2, .sl j3 (a.cond.map nodeP) x3])) else refsV (.agg [vS b.name, vI b.quant, .sl l1 (b.refs.map refP) y1, .sl l2 (b.rows.map rowP) y2, .sl l3 (b.cond.map nodeP) y3])) = PV.sl jr ((RR a b).map refP) false) →
   ∀ x1 x2 x3 y1 y2 y3 : Bool, rAddF [.agg [vS a.name, vI a.quant, .sl j1 (a.refs.map refP) x1, .sl j2 (a.rows.map rowP) x2, .sl j3 (a.cond.map nodeP) x3], .agg [vS b.name, vI b.quant, .sl l1 (b.refs.map refP) y1, .sl l2 (b.rows.map rowP) y2, .sl l3 (b.cond.map nodeP) y3]] = some ([szH a, szH b, (a.rows ++ b.rows).length ≤ 100000], .tuple [.agg [vS a.name, vI a.quant, .sl jr ((RR a b).map refP) false, .sl jm ((mrgR a.rows b.rows).map rowP) false, .sl j3 (a.cond.map nodeP) false], vI 0]) := by
  intro jr hjr x1 x2 x3 y1 y2 y3
  have e := hjr x1 x2 x3 y1 y2 y3
  simp only [rAddF, histD_of _ _ _ k1 k2 k3, histD_of _ _ _ m1 m2 m3]
  unfold rAnsV
  rw [if_pos h0, e, e2]
  rfl
 by_cases hb : b.rows = []
 ·by_cases ha : a.rows = []
  ·have hR : RR a b = [] := by unfold RR; rw [if_pos ha]; exact okH_none o2 hb
   exact ⟨0, jm, .inr hR, hm, main 0 fun x1 x2 x3 y1 y2 y3 => by rw [if_pos hb, if_pos ha, hR]; rfl⟩
  ·have hR : RR a b = a.refs := by unfold RR; rw [if_neg ha]
   exact ⟨j1, jm, by rw [hR]; exact k1, hm, main j1 fun x1 x2 x3 y1 y2 y3 => by rw [if_pos hb, if_neg ha, hR]; rfl⟩
 ·have hR : RR a b = b.refs := by
   unfold RR
   split
   ·rfl
   ·rename_i ha
    exact Decidable.byContradiction fun h => h80 ⟨ha, hb, h⟩
  exact ⟨l1, jm, by rw [hR]; exact m1, hm, main l1 fun x1 x2 x3 y1 y2 y3 => by rw [if_neg hb, hR]; rfl⟩
theorem rAns_err {a b : Hist} (h0 : (addH a b).2 ≠ 0) {j1 j2 j3 l1 l2 l3 : Nat} (k1 : j1 = 2 ∨ a.refs = []) (k2 : j2 = 50 ∨ a.rows = []) (k3 : j3 = 6 ∨ a.cond = []) (m1 : l1 = 2 ∨ b.refs = []) (m2 : l2 = 50 ∨ b.rows = []) (m3 : l3 = 6 ∨ b.cond = []) (x1 x2 x3 y1 y2 y3 : Bool) :
  rAddF [.agg [vS a.name, vI a.quant, .sl j1 (a.refs.map refP) x1, .sl j2 (a.rows.map rowP) x2, .sl j3 (a.cond.map nodeP) x3], .agg [vS b.name, vI b.quant, .sl l1 (b.refs.map refP) y1, .sl l2 (b.rows.map rowP) y2, .sl l3 (b.cond.map nodeP) y3]] = some ([szH a, szH b, (a.rows ++ b.rows).length ≤ 100000], .tuple [noHP, vI (addH a b).2]) := by
 simp only [rAddF, histD_of _ _ _ k1 k2 k3, histD_of _ _ _ m1 m2 m3]
 unfold rAnsV
 rw [if_neg h0]
theorem spoA {n : ByteArray} {q : Int} {lR pR : Nat} {cR : List PV} {lS pS : Nat} {cS : List PV} {lC pC : Nat} {cC : List PV} {M : List Blk} {K : PV → List Blk → Prop} (gR : M[4]? = some (.live cR)) (hR : RoomS 2 200000000 lR pR cR) (gS : M[5]? = some (.live cS)) (hS : RoomS 50 200000000 lS pS cS) (gC : M[6]? = some (.live cC)) (hC : RoomS 6 200000000 lC pC cC) (hK : K (.tuple []) (eatB M [4, 5, 6])) : spoK [.agg [vS n, vI q, .rs 2 4 0 lR pR, .rs 50 5 0 lS pS, .rs 6 6 0 lC pC]] M K := by
 have e : refsL [.agg [vS n, vI q, .rs 2 4 0 lR pR, .rs 50 5 0 lS pS, .rs 6 6 0 lC pC]] = [4, 5, 6] := rfl
 refine ⟨by rw [e]; decide, ?_, ?_⟩
 ·rw [e]
  simp only [List.all_cons, List.all_nil, gR, gS, gC, givable, Bool.and_true, Bool.and_eq_true]
  exact ⟨hR.2.2.2, hS.2.2.2, hC.2.2.2⟩
 ·rw [e]
  refine .inl ⟨n, q, lR, pR, cR, lS, pS, cS, lC, pC, cC, rfl, ?_, hR, hS, hC, fun B => ⟨rfl, hK⟩⟩
  simp only [List.map_cons, List.map_nil, List.getD_eq_getElem?_getD, gR, gS, gC, Option.getD_some]
theorem spoB {n : ByteArray} {q : Int} {oR : Bool} {lS pS : Nat} {cS : List PV} {lC pC : Nat} {cC : List PV} {M : List Blk} {K : PV → List Blk → Prop} (gS : M[4]? = some (.live cS)) (hS : RoomS 50 200000000 lS pS cS) (gC : M[5]? = some (.live cC)) (hC : RoomS 6 200000000 lC pC cC) (hK : K (.tuple []) (eatB M [4, 5])) : spoK [.agg [vS n, vI q, .sl 0 [] oR, .rs 50 4 0 lS pS, .rs 6 5 0 lC pC]] M K := by
 have e : refsL [.agg [vS n, vI q, .sl 0 [] oR, .rs 50 4 0 lS pS, .rs 6 5 0 lC pC]] = [4, 5] := rfl
 refine ⟨by rw [e]; decide, ?_, ?_⟩
 ·rw [e]
  simp only [List.all_cons, List.all_nil, gS, gC, givable, Bool.and_true, Bool.and_eq_true]
  exact ⟨hS.2.2.2, hC.2.2.2⟩
 ·rw [e]
  refine .inr (.inl ⟨n, q, oR, lS, pS, cS, lC, pC, cC, rfl, ?_, hS, hC, fun B => ⟨rfl, hK⟩⟩)
  simp only [List.map_cons, List.map_nil, List.getD_eq_getElem?_getD, gS, gC, Option.getD_some]
theorem spoC {n : ByteArray} {q : Int} {lR pR : Nat} {cR : List PV} {oS : Bool} {lC pC : Nat} {cC : List PV} {M : List Blk} {K : PV → List Blk → Prop} (gR : M[4]? = some (.live cR)) (hR : RoomS 2 200000000 lR pR cR) (gC : M[5]? = some (.live cC)) (hC : RoomS 6 200000000 lC pC cC) (hK : K (.tuple []) (eatB M [4, 5])) : spoK [.agg [vS n, vI q, .rs 2 4 0 lR pR, .sl 0 [] oS, .rs 6 5 0 lC pC]] M K := by
 have e : refsL [.agg [vS n, vI q, .rs 2 4 0 lR pR, .sl 0 [] oS, .rs 6 5 0 lC pC]] = [4, 5] := rfl
 refine ⟨by rw [e]; decide, ?_, ?_⟩
 ·rw [e]
  simp only [List.all_cons, List.all_nil, gR, gC, givable, Bool.and_true, Bool.and_eq_true]
  exact ⟨hR.2.2.2, hC.2.2.2⟩
 ·rw [e]
  refine .inr (.inr (.inl ⟨n, q, lR, pR, cR, oS, lC, pC, cC, rfl, ?_, hR, hC, fun B => ⟨rfl, hK⟩⟩))
  simp only [List.map_cons, List.map_nil, List.getD_eq_getElem?_getD, gR, gC, Option.getD_some]
theorem spoD {n : ByteArray} {q : Int} {oR : Bool} {oS : Bool} {lC pC : Nat} {cC : List PV} {M : List Blk} {K : PV → List Blk → Prop} (gC : M[4]? = some (.live cC)) (hC : RoomS 6 200000000 lC pC cC) (hK : K (.tuple []) (eatB M [4])) : spoK [.agg [vS n, vI q, .sl 0 [] oR, .sl 0 [] oS, .rs 6 4 0 lC pC]] M K := by
 have e : refsL [.agg [vS n, vI q, .sl 0 [] oR, .sl 0 [] oS, .rs 6 4 0 lC pC]] = [4] := rfl
 refine ⟨by rw [e]; decide, ?_, ?_⟩
 ·rw [e]
  simp only [List.all_cons, List.all_nil, gC, givable, Bool.and_true, Bool.and_eq_true]
  exact hC.2.2.2
 ·rw [e]
  refine .inr (.inr (.inr (.inl ⟨n, q, oR, oS, lC, pC, cC, rfl, ?_, hC, fun B => ⟨rfl, hK⟩⟩)))
  simp only [List.map_cons, List.map_nil, List.getD_eq_getElem?_getD, gC, Option.getD_some]
theorem spoE {n : ByteArray} {q : Int} {oR : Bool} {oS : Bool} {oC : Bool} {M : List Blk} {K : PV → List Blk → Prop}  (hK : K (.tuple []) (eatB M [])) : spoK [.agg [vS n, vI q, .sl 0 [] oR, .sl 0 [] oS, .sl 0 [] oC]] M K := by
 have e : refsL [.agg [vS n, vI q, .sl 0 [] oR, .sl 0 [] oS, .sl 0 [] oC]] = [] := rfl
 refine ⟨by rw [e]; decide, ?_, ?_⟩
 ·rw [e]
  rfl
 ·rw [e]
  refine .inr (.inr (.inr (.inr ⟨n, q, oR, oS, oC, rfl, ?_, fun B => ⟨rfl, hK⟩⟩)))
  rfl
def D3 : FuncId → Option CB
 | 4 => some (.fn fewF)
 | 5 => some (.fn copiedF)
 | 6 => some (.con (.gen addCT addCT_mono))
 | 7 => some (.fn rAddF)
 | 8 => some (deepC sameF)
 | 9 => some (.fn lnumF)
 | 10 => some (deepC keptF)
 | 11 => some (.con (.gen (eatT spT) (eatT_mono spT_mono)))
 | _ => none
theorem D3_ok : AllB E0 D3 := fun g c h => by
 unfold D3 at h
 split at h <;> simp at h <;> subst h
 ·exact few_ok
 ·exact copied_ok
 ·exact addC_ok
 ·exact rAdd_ok
 ·exact same_ok.deep
 ·exact lnum_ok
 ·exact kept_ok.deep
 ·exact spoil_ok
def W3 := And.intro @Try.results3 (And.intro @fa27_3 (And.intro @ag23 (And.intro @sz23 (And.intro @zd23 (And.intro @Try.underlying23 (And.intro @ag27 (And.intro @sz27 (And.intro @zp27 (And.intro @fewE (And.intro @copiedE (And.intro @pAddE (And.intro @rAddE (And.intro @sameE (And.intro @lnumE (And.intro @keptE (@spoilE))))))))))))))))
theorem law_ok : Sound Try.prog G0 3 (conT (CB.fn lawF).toCon) := by
 refine fn_of D3_ok mixed true Try.func3 (by decide) rfl _ ?_
 intro args ps r hq hp
 obtain ⟨p, q, a, b, rfl, ha, hb, hx⟩ := on2h_inv hq
 obtain ⟨rfl, rfl⟩ := Prod.mk.inj hx
 have za := hp (szH a) (by simp)
 have zb := hp (szH b) (by simp)
 have ya := hp (smallH a) (by simp)
 have yb := hp (smallH b) (by simp)
 refine ⟨by simp [norefL, nr_hist ha, nr_hist hb], ?_⟩
 simp only [awpBFn, Try.ntmps3, List.length_cons, List.length_nil, Nat.reduceAdd, Nat.reduceSub, List.replicate_succ, List.replicate_zero, List.cons_append, List.nil_append, List.map_cons, List.map_nil]
 obtain ⟨j1, o1, j2, o2, j3, o3, rfl, k1, k2, k3⟩ := ha
 obtain ⟨l1, p1, l2, p2, l3, p3, rfl, m1, m2, m3⟩ := hb
 have cE1 := fun x y z => copiedE (n := a.name) (q := a.quant) (o1 := x) (o2 := y) (o3 := z) k1 k2 k3
 have cE2 := fun x y z => copiedE (n := b.name) (q := b.quant) (o1 := x) (o2 := y) (o3 := z) m1 m2 m3
 have hla : (a.rows.length : Int) ≤ 100000000 := by have := ya.2.1; omega
 have hlb : (b.rows.length : Int) ≤ 100000000 := by have := yb.2.1; omega
 by_cases hf : (a.rows.length : Int) + b.rows.length ≤ 2000
 case neg =>
  simp -implicitDefEqProofs (maxSteps := 2000000) only [R0, R1, R2, R3, R4, R5, R6, R7, R8, R9, R10, R11, R12, R13, R14, R15, R16, PV.strip, stripL, PV.noref, ri, feedL, feeds, Nat.reduceBEq, Array.toList, ↓reduceIte, forall_const, implies_true, Nat.reduceEqDiff, reduceCtorEq, alP, bxP, bsP, ifP, quiet, riD, bs_l, PV.isRef, plainCell, norefL, PV.scalar, scalarL, PV.cells, PV.solid, PV.one, PV.free, freeL, fillP, splice, Nat.reduceAdd, Nat.reduceMul, Nat.reduceSub, Nat.reduceLeDiff, Nat.reduceLT, Int.reduceToNat, Int.reduceEq, Int.reduceLT, Int.reduceLE, Int.reduceNeg, E0_vc, vaN, PV.avoid, avoidL, Nat.reduceGT, W3, D3, fewE, hf, pAddE, rAddE, spoilE, RB0]
  unfold inI64; omega
 have hask : askA a b := ⟨za, zb, ya, yb, by rw [List.length_append]; omega⟩
 have hl5 := hask.2.2.2.2
 have wa : lenH a := ⟨by have := ya.1; omega, by have := ya.2.1; omega, by have := ya.2.2; omega⟩
 have wb : lenH b := ⟨by have := yb.1; omega, by have := yb.2.1; omega, by have := yb.2.2; omega⟩
 have kE1 := fun x y z => keptS a (p1 := x) (p2 := y) (p3 := z) k1 k2 k3
 have kE2 := fun x y z => keptS b (p1 := x) (p2 := y) (p3 := z) m1 m2 m3
 have hRl : (RR a b).length ≤ 100000000 := by unfold RR; split; exact yb.1; exact ya.1
 have hMl : (mrgR a.rows b.rows).length ≤ 2000 := by
  have := mrg_len a.rows b.rows
  omega
 by_cases h0 : (addH a b).2 = 0
 case neg =>
  have hr := rAns_err h0 k1 k2 k3 m1 m2 m3
  have hs := fun x1 x2 x3 y1 y2 y3 => sameS (n := { data := #[] }) (q := 0) [] [] [] (j1 := 0) (j2 := 0) (j3 := 0) (l1 := 0) (l2 := 0) (l3 := 0) (o1 := x1) (o2 := x2) (o3 := x3) (p1 := y1) (p2 := y2) (p3 := y3) (.inr rfl) (.inr rfl) (.inr rfl) (.inr rfl) (.inr rfl) (.inr rfl)
  simp only [List.map_nil] at hs
  simp -implicitDefEqProofs (maxSteps := 2000000) only [R0, R1, R2, R3, R4, R5, R6, R7, R8, R9, R10, R11, R12, R13, R14, R15, R16, PV.strip, stripL, PV.noref, ri, feedL, feeds, Nat.reduceBEq, Array.toList, ↓reduceIte, forall_const, implies_true, Nat.reduceEqDiff, reduceCtorEq, alP, bxP, bsP, ifP, quiet, riD, bs_l, PV.isRef, plainCell, norefL, PV.scalar, scalarL, PV.cells, PV.solid, PV.one, PV.free, freeL, fillP, splice, Nat.reduceAdd, Nat.reduceMul, Nat.reduceSub, Nat.reduceLeDiff, Nat.reduceLT, Int.reduceToNat, Int.reduceEq, Int.reduceLT, Int.reduceLE, Int.reduceNeg, E0_vc, vaN, PV.avoid, avoidL, Nat.reduceGT, W3, D3, -bs_l, fewE, hf, cE1, cE2, copyP, addK_r, spoK_r, lk_s, lb_t, lb_f, deep_r, brwD_a, eat_c, eat_n, kE1, kE2, hr, noHO, noHP, pAddE, rAddE, spoilE, sameE', keptE', List.length_map, lnumE, nrefs, nrows, nnodes, PV.noref, norefL, PV.scalar, mR_b, mS_b, mC_b, mR_b0, decide_true, Bool.not_true, ne_eq, not_true_eq_false, decide_false, hs, RB0]
  refine ⟨by unfold inI64; omega, ya, yb, addC_pure hask ?_⟩
  rw [pAns_err h0]
  simp -implicitDefEqProofs (maxSteps := 2000000) only [R0, R1, R2, R3, R4, R5, R6, R7, R8, R9, R10, R11, R12, R13, R14, R15, R16, PV.strip, stripL, PV.noref, ri, feedL, feeds, Nat.reduceBEq, Array.toList, ↓reduceIte, forall_const, implies_true, Nat.reduceEqDiff, reduceCtorEq, alP, bxP, bsP, ifP, quiet, riD, bs_l, PV.isRef, plainCell, norefL, PV.scalar, scalarL, PV.cells, PV.solid, PV.one, PV.free, freeL, fillP, splice, Nat.reduceAdd, Nat.reduceMul, Nat.reduceSub, Nat.reduceLeDiff, Nat.reduceLT, Int.reduceToNat, Int.reduceEq, Int.reduceLT, Int.reduceLE, Int.reduceNeg, E0_vc, vaN, PV.avoid, avoidL, Nat.reduceGT, W3, D3, -bs_l, fewE, hf, cE1, cE2, copyP, addK_r, spoK_r, lk_s, lb_t, lb_f, deep_r, brwD_a, eat_c, eat_n, kE1, kE2, hr, noHO, noHP, pAddE, rAddE, spoilE, sameE', keptE', List.length_map, lnumE, nrefs, nrows, nnodes, PV.noref, norefL, PV.scalar, mR_b, mS_b, mC_b, mR_b0, decide_true, Bool.not_true, ne_eq, not_true_eq_false, decide_false, hs, RB0]
  refine addC_pure hask ?_
  rw [pAns_err h0]
  simp -implicitDefEqProofs (maxSteps := 2000000) only [R0, R1, R2, R3, R4, R5, R6, R7, R8, R9, R10, R11, R12, R13, R14, R15, R16, PV.strip, stripL, PV.noref, ri, feedL, feeds, Nat.reduceBEq, Array.toList, ↓reduceIte, forall_const, implies_true, Nat.reduceEqDiff, reduceCtorEq, alP, bxP, bsP, ifP, quiet, riD, bs_l, PV.isRef, plainCell, norefL, PV.scalar, scalarL, PV.cells, PV.solid, PV.one, PV.free, freeL, fillP, splice, Nat.reduceAdd, Nat.reduceMul, Nat.reduceSub, Nat.reduceLeDiff, Nat.reduceLT, Int.reduceToNat, Int.reduceEq, Int.reduceLT, Int.reduceLE, Int.reduceNeg, E0_vc, vaN, PV.avoid, avoidL, Nat.reduceGT, W3, D3, -bs_l, fewE, hf, cE1, cE2, copyP, addK_r, spoK_r, lk_s, lb_t, lb_f, deep_r, brwD_a, eat_c, eat_n, kE1, kE2, hr, noHO, noHP, pAddE, rAddE, spoilE, sameE', keptE', List.length_map, lnumE, nrefs, nrows, nnodes, PV.noref, norefL, PV.scalar, mR_b, mS_b, mC_b, mR_b0, decide_true, Bool.not_true, ne_eq, not_true_eq_false, decide_false, hs, RB0]
  have w0 : lenH ⟨{ data := #[] }, 0, [], [], []⟩ := ⟨Nat.zero_le _, Nat.zero_le _, Nat.zero_le _⟩
  refine ⟨za, zb, hl5, w0, w0, wa, wa, wb, wb, spoE ?_⟩
  simp -implicitDefEqProofs (maxSteps := 2000000) only [R0, R1, R2, R3, R4, R5, R6, R7, R8, R9, R10, R11, R12, R13, R14, R15, R16, PV.strip, stripL, PV.noref, ri, feedL, feeds, Nat.reduceBEq, Array.toList, ↓reduceIte, forall_const, implies_true, Nat.reduceEqDiff, reduceCtorEq, alP, bxP, bsP, ifP, quiet, riD, bs_l, PV.isRef, plainCell, norefL, PV.scalar, scalarL, PV.cells, PV.solid, PV.one, PV.free, freeL, fillP, splice, Nat.reduceAdd, Nat.reduceMul, Nat.reduceSub, Nat.reduceLeDiff, Nat.reduceLT, Int.reduceToNat, Int.reduceEq, Int.reduceLT, Int.reduceLE, Int.reduceNeg, E0_vc, vaN, PV.avoid, avoidL, Nat.reduceGT, W3, D3, -bs_l, fewE, hf, cE1, cE2, copyP, addK_r, spoK_r, lk_s, lb_t, lb_f, deep_r, brwD_a, eat_c, eat_n, kE1, kE2, hr, noHO, noHP, pAddE, rAddE, spoilE, sameE', keptE', List.length_map, lnumE, nrefs, nrows, nnodes, PV.noref, norefL, PV.scalar, mR_b, mS_b, mC_b, mR_b0, decide_true, Bool.not_true, ne_eq, not_true_eq_false, decide_false, hs, RB0]
  exact ⟨w0, wa, wa, wb⟩
 obtain ⟨jr, jm, hjr, hjm, hr⟩ := rAns_ok h0 k1 k2 k3 m1 m2 m3
 have wr : lenH ⟨a.name, a.quant, RR a b, mrgR a.rows b.rows, a.cond⟩ := ⟨by show (RR a b).length ≤ _; omega, by show (mrgR a.rows b.rows).length ≤ _; omega, wa.2.2⟩
 have hcl : a.cond.length ≤ 200000000 := by have := ya.2.2; omega
 have hp := pAns_ok h0
 simp -implicitDefEqProofs (maxSteps := 2000000) only [R0, R1, R2, R3, R4, R5, R6, R7, R8, R9, R10, R11, R12, R13, R14, R15, R16, PV.strip, stripL, PV.noref, ri, feedL, feeds, Nat.reduceBEq, Array.toList, ↓reduceIte, forall_const, implies_true, Nat.reduceEqDiff, reduceCtorEq, alP, bxP, bsP, ifP, quiet, riD, bs_l, PV.isRef, plainCell, norefL, PV.scalar, scalarL, PV.cells, PV.solid, PV.one, PV.free, freeL, fillP, splice, Nat.reduceAdd, Nat.reduceMul, Nat.reduceSub, Nat.reduceLeDiff, Nat.reduceLT, Int.reduceToNat, Int.reduceEq, Int.reduceLT, Int.reduceLE, Int.reduceNeg, E0_vc, vaN, PV.avoid, avoidL, Nat.reduceGT, W3, D3, -bs_l, fewE, hf, cE1, cE2, copyP, addK_r, spoK_r, lk_s, lb_t, lb_f, deep_r, brwD_a, eat_c, eat_n, kE1, kE2, hr, noHO, noHP, pAddE, rAddE, spoilE, sameE', keptE', List.length_map, lnumE, nrefs, nrows, nnodes, PV.noref, norefL, PV.scalar, mR_b, mS_b, mC_b, mR_b0, decide_true, Bool.not_true, ne_eq, not_true_eq_false, decide_false, RB0]
 refine ⟨by unfold inI64; omega, ya, yb, addC_melt hask h0 ?_ ?_ ?_ ?_⟩
 ·intro hm x y z
  rw [rowsO_ne hm] at hp
  have hs : ∀ x1 x2 x3 y1 y2 y3 : Bool, sameF [.agg [vS a.name, vI a.quant, .sl 2 ((RR a b).map refP) x1, .sl 50 ((mrgR a.rows b.rows).map rowP) x2, .sl 6 (a.cond.map nodeP) x3], .agg [vS a.name, vI a.quant, .sl jr ((RR a b).map refP) y1, .sl jm ((mrgR a.rows b.rows).map rowP) y2, .sl j3 (a.cond.map nodeP) y3]] = some ([lenH ⟨a.name, a.quant, (RR a b), (mrgR a.rows b.rows), a.cond⟩], vT true) := fun x1 x2 x3 y1 y2 y3 => sameS (RR a b) (mrgR a.rows b.rows) a.cond (.inl rfl) (.inl rfl) (.inl rfl) hjr hjm k3
  simp -implicitDefEqProofs (maxSteps := 2000000) only [R0, R1, R2, R3, R4, R5, R6, R7, R8, R9, R10, R11, R12, R13, R14, R15, R16, PV.strip, stripL, PV.noref, ri, feedL, feeds, Nat.reduceBEq, Array.toList, ↓reduceIte, forall_const, implies_true, Nat.reduceEqDiff, reduceCtorEq, alP, bxP, bsP, ifP, quiet, riD, bs_l, PV.isRef, plainCell, norefL, PV.scalar, scalarL, PV.cells, PV.solid, PV.one, PV.free, freeL, fillP, splice, Nat.reduceAdd, Nat.reduceMul, Nat.reduceSub, Nat.reduceLeDiff, Nat.reduceLT, Int.reduceToNat, Int.reduceEq, Int.reduceLT, Int.reduceLE, Int.reduceNeg, E0_vc, vaN, PV.avoid, avoidL, Nat.reduceGT, W3, D3, -bs_l, fewE, hf, cE1, cE2, copyP, addK_r, spoK_r, lk_s, lb_t, lb_f, deep_r, brwD_a, eat_c, eat_n, kE1, kE2, hr, noHO, noHP, pAddE, rAddE, spoilE, sameE', keptE', List.length_map, lnumE, nrefs, nrows, nnodes, PV.noref, norefL, PV.scalar, mR_b, mS_b, mC_b, mR_b0, decide_true, Bool.not_true, ne_eq, not_true_eq_false, decide_false, hs, RB0]
  refine addC_pure hask ?_
  rw [hp]
  simp -implicitDefEqProofs (maxSteps := 2000000) only [R0, R1, R2, R3, R4, R5, R6, R7, R8, R9, R10, R11, R12, R13, R14, R15, R16, PV.strip, stripL, PV.noref, ri, feedL, feeds, Nat.reduceBEq, Array.toList, ↓reduceIte, forall_const, implies_true, Nat.reduceEqDiff, reduceCtorEq, alP, bxP, bsP, ifP, quiet, riD, bs_l, PV.isRef, plainCell, norefL, PV.scalar, scalarL, PV.cells, PV.solid, PV.one, PV.free, freeL, fillP, splice, Nat.reduceAdd, Nat.reduceMul, Nat.reduceSub, Nat.reduceLeDiff, Nat.reduceLT, Int.reduceToNat, Int.reduceEq, Int.reduceLT, Int.reduceLE, Int.reduceNeg, E0_vc, vaN, PV.avoid, avoidL, Nat.reduceGT, W3, D3, -bs_l, fewE, hf, cE1, cE2, copyP, addK_r, spoK_r, lk_s, lb_t, lb_f, deep_r, brwD_a, eat_c, eat_n, kE1, kE2, hr, noHO, noHP, pAddE, rAddE, spoilE, sameE', keptE', List.length_map, lnumE, nrefs, nrows, nnodes, PV.noref, norefL, PV.scalar, mR_b, mS_b, mC_b, mR_b0, decide_true, Bool.not_true, ne_eq, not_true_eq_false, decide_false, hs, RB0]
  refine ⟨za, zb, hl5, wr, wr, wa, wa, wb, wb, spoA rfl (mR_s _ _ (by omega)) rfl (mS_s _ _ (by omega)) rfl (mC_s _ _ hcl) ?_⟩
  simp -implicitDefEqProofs (maxSteps := 2000000) only [R0, R1, R2, R3, R4, R5, R6, R7, R8, R9, R10, R11, R12, R13, R14, R15, R16, PV.strip, stripL, PV.noref, ri, feedL, feeds, Nat.reduceBEq, Array.toList, ↓reduceIte, forall_const, implies_true, Nat.reduceEqDiff, reduceCtorEq, alP, bxP, bsP, ifP, quiet, riD, bs_l, PV.isRef, plainCell, norefL, PV.scalar, scalarL, PV.cells, PV.solid, PV.one, PV.free, freeL, fillP, splice, Nat.reduceAdd, Nat.reduceMul, Nat.reduceSub, Nat.reduceLeDiff, Nat.reduceLT, Int.reduceToNat, Int.reduceEq, Int.reduceLT, Int.reduceLE, Int.reduceNeg, E0_vc, vaN, PV.avoid, avoidL, Nat.reduceGT, W3, D3, -bs_l, fewE, hf, cE1, cE2, copyP, addK_r, spoK_r, lk_s, lb_t, lb_f, deep_r, brwD_a, eat_c, eat_n, kE1, kE2, hr, noHO, noHP, pAddE, rAddE, spoilE, sameE', keptE', List.length_map, lnumE, nrefs, nrows, nnodes, PV.noref, norefL, PV.scalar, mR_b, mS_b, mC_b, mR_b0, decide_true, Bool.not_true, ne_eq, not_true_eq_false, decide_false, hs, RB0]
  exact ⟨wr, wa, wa, wb⟩
 ·intro hm hR y z
  rw [hR] at hr hp hjr wr
  rw [rowsO_ne hm] at hp
  simp only [List.map_nil] at hr hp
  have hs : ∀ x1 x2 x3 y1 y2 y3 : Bool, sameF [.agg [vS a.name, vI a.quant, .sl 0 [] x1, .sl 50 ((mrgR a.rows b.rows).map rowP) x2, .sl 6 (a.cond.map nodeP) x3], .agg [vS a.name, vI a.quant, .sl jr [] y1, .sl jm ((mrgR a.rows b.rows).map rowP) y2, .sl j3 (a.cond.map nodeP) y3]] = some ([lenH ⟨a.name, a.quant, ([] : List Ref), (mrgR a.rows b.rows), a.cond⟩], vT true) := fun x1 x2 x3 y1 y2 y3 => sameS ([] : List Ref) (mrgR a.rows b.rows) a.cond (.inr rfl) (.inl rfl) (.inl rfl) hjr hjm k3
  have hs2 : ∀ x1 x2 x3 y1 y2 y3 : Bool, sameF [.agg [vS a.name, vI a.quant, .sl 2 [] x1, .sl 50 ((mrgR a.rows b.rows).map rowP) x2, .sl 6 (a.cond.map nodeP) x3], .agg [vS a.name, vI a.quant, .sl jr [] y1, .sl jm ((mrgR a.rows b.rows).map rowP) y2, .sl j3 (a.cond.map nodeP) y3]] = some ([lenH ⟨a.name, a.quant, ([] : List Ref), (mrgR a.rows b.rows), a.cond⟩], vT true) := fun x1 x2 x3 y1 y2 y3 => sameS ([] : List Ref) (mrgR a.rows b.rows) a.cond (.inl rfl) (.inl rfl) (.inl rfl) hjr hjm k3
  simp -implicitDefEqProofs (maxSteps := 2000000) only [R0, R1, R2, R3, R4, R5, R6, R7, R8, R9, R10, R11, R12, R13, R14, R15, R16, PV.strip, stripL, PV.noref, ri, feedL, feeds, Nat.reduceBEq, Array.toList, ↓reduceIte, forall_const, implies_true, Nat.reduceEqDiff, reduceCtorEq, alP, bxP, bsP, ifP, quiet, riD, bs_l, PV.isRef, plainCell, norefL, PV.scalar, scalarL, PV.cells, PV.solid, PV.one, PV.free, freeL, fillP, splice, Nat.reduceAdd, Nat.reduceMul, Nat.reduceSub, Nat.reduceLeDiff, Nat.reduceLT, Int.reduceToNat, Int.reduceEq, Int.reduceLT, Int.reduceLE, Int.reduceNeg, E0_vc, vaN, PV.avoid, avoidL, Nat.reduceGT, W3, D3, -bs_l, fewE, hf, cE1, cE2, copyP, addK_r, spoK_r, lk_s, lb_t, lb_f, deep_r, brwD_a, eat_c, eat_n, kE1, kE2, hr, noHO, noHP, pAddE, rAddE, spoilE, sameE', keptE', List.length_map, lnumE, nrefs, nrows, nnodes, PV.noref, norefL, PV.scalar, mR_b, mS_b, mC_b, mR_b0, decide_true, Bool.not_true, ne_eq, not_true_eq_false, decide_false, hs, hs2, RB0]
  refine addC_pure hask ?_
  rw [hp]
  simp -implicitDefEqProofs (maxSteps := 2000000) only [R0, R1, R2, R3, R4, R5, R6, R7, R8, R9, R10, R11, R12, R13, R14, R15, R16, PV.strip, stripL, PV.noref, ri, feedL, feeds, Nat.reduceBEq, Array.toList, ↓reduceIte, forall_const, implies_true, Nat.reduceEqDiff, reduceCtorEq, alP, bxP, bsP, ifP, quiet, riD, bs_l, PV.isRef, plainCell, norefL, PV.scalar, scalarL, PV.cells, PV.solid, PV.one, PV.free, freeL, fillP, splice, Nat.reduceAdd, Nat.reduceMul, Nat.reduceSub, Nat.reduceLeDiff, Nat.reduceLT, Int.reduceToNat, Int.reduceEq, Int.reduceLT, Int.reduceLE, Int.reduceNeg, E0_vc, vaN, PV.avoid, avoidL, Nat.reduceGT, W3, D3, -bs_l, fewE, hf, cE1, cE2, copyP, addK_r, spoK_r, lk_s, lb_t, lb_f, deep_r, brwD_a, eat_c, eat_n, kE1, kE2, hr, noHO, noHP, pAddE, rAddE, spoilE, sameE', keptE', List.length_map, lnumE, nrefs, nrows, nnodes, PV.noref, norefL, PV.scalar, mR_b, mS_b, mC_b, mR_b0, decide_true, Bool.not_true, ne_eq, not_true_eq_false, decide_false, hs, hs2, RB0]
  refine ⟨za, zb, hl5, wr, wr, wa, wa, wb, wb, spoB rfl (mS_s _ _ (by omega)) rfl (mC_s _ _ hcl) ?_⟩
  simp -implicitDefEqProofs (maxSteps := 2000000) only [R0, R1, R2, R3, R4, R5, R6, R7, R8, R9, R10, R11, R12, R13, R14, R15, R16, PV.strip, stripL, PV.noref, ri, feedL, feeds, Nat.reduceBEq, Array.toList, ↓reduceIte, forall_const, implies_true, Nat.reduceEqDiff, reduceCtorEq, alP, bxP, bsP, ifP, quiet, riD, bs_l, PV.isRef, plainCell, norefL, PV.scalar, scalarL, PV.cells, PV.solid, PV.one, PV.free, freeL, fillP, splice, Nat.reduceAdd, Nat.reduceMul, Nat.reduceSub, Nat.reduceLeDiff, Nat.reduceLT, Int.reduceToNat, Int.reduceEq, Int.reduceLT, Int.reduceLE, Int.reduceNeg, E0_vc, vaN, PV.avoid, avoidL, Nat.reduceGT, W3, D3, -bs_l, fewE, hf, cE1, cE2, copyP, addK_r, spoK_r, lk_s, lb_t, lb_f, deep_r, brwD_a, eat_c, eat_n, kE1, kE2, hr, noHO, noHP, pAddE, rAddE, spoilE, sameE', keptE', List.length_map, lnumE, nrefs, nrows, nnodes, PV.noref, norefL, PV.scalar, mR_b, mS_b, mC_b, mR_b0, decide_true, Bool.not_true, ne_eq, not_true_eq_false, decide_false, hs, hs2, RB0]
  exact ⟨wr, wa, wa, wb⟩
 ·intro hm hR x z
  rw [hR] at hr hp hjr wr
  rw [hm] at hr hp hjm wr
  rw [rowsO_0] at hp
  simp only [List.map_nil] at hr hp
  have hs : ∀ x1 x2 x3 y1 y2 y3 : Bool, sameF [.agg [vS a.name, vI a.quant, .sl 2 [] x1, .sl 0 [] x2, .sl 6 (a.cond.map nodeP) x3], .agg [vS a.name, vI a.quant, .sl jr [] y1, .sl jm [] y2, .sl j3 (a.cond.map nodeP) y3]] = some ([lenH ⟨a.name, a.quant, ([] : List Ref), ([] : List Row), a.cond⟩], vT true) := fun x1 x2 x3 y1 y2 y3 => sameS ([] : List Ref) ([] : List Row) a.cond (.inl rfl) (.inr rfl) (.inl rfl) hjr hjm k3
  simp -implicitDefEqProofs (maxSteps := 2000000) only [R0, R1, R2, R3, R4, R5, R6, R7, R8, R9, R10, R11, R12, R13, R14, R15, R16, PV.strip, stripL, PV.noref, ri, feedL, feeds, Nat.reduceBEq, Array.toList, ↓reduceIte, forall_const, implies_true, Nat.reduceEqDiff, reduceCtorEq, alP, bxP, bsP, ifP, quiet, riD, bs_l, PV.isRef, plainCell, norefL, PV.scalar, scalarL, PV.cells, PV.solid, PV.one, PV.free, freeL, fillP, splice, Nat.reduceAdd, Nat.reduceMul, Nat.reduceSub, Nat.reduceLeDiff, Nat.reduceLT, Int.reduceToNat, Int.reduceEq, Int.reduceLT, Int.reduceLE, Int.reduceNeg, E0_vc, vaN, PV.avoid, avoidL, Nat.reduceGT, W3, D3, -bs_l, fewE, hf, cE1, cE2, copyP, addK_r, spoK_r, lk_s, lb_t, lb_f, deep_r, brwD_a, eat_c, eat_n, kE1, kE2, hr, noHO, noHP, pAddE, rAddE, spoilE, sameE', keptE', List.length_map, lnumE, nrefs, nrows, nnodes, PV.noref, norefL, PV.scalar, mR_b, mS_b, mC_b, mR_b0, decide_true, Bool.not_true, ne_eq, not_true_eq_false, decide_false, hs, RB0]
  refine addC_pure hask ?_
  rw [hp]
  simp -implicitDefEqProofs (maxSteps := 2000000) only [R0, R1, R2, R3, R4, R5, R6, R7, R8, R9, R10, R11, R12, R13, R14, R15, R16, PV.strip, stripL, PV.noref, ri, feedL, feeds, Nat.reduceBEq, Array.toList, ↓reduceIte, forall_const, implies_true, Nat.reduceEqDiff, reduceCtorEq, alP, bxP, bsP, ifP, quiet, riD, bs_l, PV.isRef, plainCell, norefL, PV.scalar, scalarL, PV.cells, PV.solid, PV.one, PV.free, freeL, fillP, splice, Nat.reduceAdd, Nat.reduceMul, Nat.reduceSub, Nat.reduceLeDiff, Nat.reduceLT, Int.reduceToNat, Int.reduceEq, Int.reduceLT, Int.reduceLE, Int.reduceNeg, E0_vc, vaN, PV.avoid, avoidL, Nat.reduceGT, W3, D3, -bs_l, fewE, hf, cE1, cE2, copyP, addK_r, spoK_r, lk_s, lb_t, lb_f, deep_r, brwD_a, eat_c, eat_n, kE1, kE2, hr, noHO, noHP, pAddE, rAddE, spoilE, sameE', keptE', List.length_map, lnumE, nrefs, nrows, nnodes, PV.noref, norefL, PV.scalar, mR_b, mS_b, mC_b, mR_b0, decide_true, Bool.not_true, ne_eq, not_true_eq_false, decide_false, hs, RB0]
  refine ⟨za, zb, hl5, wr, wr, wa, wa, wb, wb, spoC rfl (mR_s0 _) rfl (mC_s _ _ hcl) ?_⟩
  simp -implicitDefEqProofs (maxSteps := 2000000) only [R0, R1, R2, R3, R4, R5, R6, R7, R8, R9, R10, R11, R12, R13, R14, R15, R16, PV.strip, stripL, PV.noref, ri, feedL, feeds, Nat.reduceBEq, Array.toList, ↓reduceIte, forall_const, implies_true, Nat.reduceEqDiff, reduceCtorEq, alP, bxP, bsP, ifP, quiet, riD, bs_l, PV.isRef, plainCell, norefL, PV.scalar, scalarL, PV.cells, PV.solid, PV.one, PV.free, freeL, fillP, splice, Nat.reduceAdd, Nat.reduceMul, Nat.reduceSub, Nat.reduceLeDiff, Nat.reduceLT, Int.reduceToNat, Int.reduceEq, Int.reduceLT, Int.reduceLE, Int.reduceNeg, E0_vc, vaN, PV.avoid, avoidL, Nat.reduceGT, W3, D3, -bs_l, fewE, hf, cE1, cE2, copyP, addK_r, spoK_r, lk_s, lb_t, lb_f, deep_r, brwD_a, eat_c, eat_n, kE1, kE2, hr, noHO, noHP, pAddE, rAddE, spoilE, sameE', keptE', List.length_map, lnumE, nrefs, nrows, nnodes, PV.noref, norefL, PV.scalar, mR_b, mS_b, mC_b, mR_b0, decide_true, Bool.not_true, ne_eq, not_true_eq_false, decide_false, hs, RB0]
  exact ⟨wr, wa, wa, wb⟩
 ·intro hm hR z
  rw [hR] at hr hp hjr wr
  rw [hm] at hr hp hjm wr
  rw [rowsO_0] at hp
  simp only [List.map_nil] at hr hp
  have hs : ∀ x1 x2 x3 y1 y2 y3 : Bool, sameF [.agg [vS a.name, vI a.quant, .sl 0 [] x1, .sl 0 [] x2, .sl 6 (a.cond.map nodeP) x3], .agg [vS a.name, vI a.quant, .sl jr [] y1, .sl jm [] y2, .sl j3 (a.cond.map nodeP) y3]] = some ([lenH ⟨a.name, a.quant, ([] : List Ref), ([] : List Row), a.cond⟩], vT true) := fun x1 x2 x3 y1 y2 y3 => sameS ([] : List Ref) ([] : List Row) a.cond (.inr rfl) (.inr rfl) (.inl rfl) hjr hjm k3
  have hs2 : ∀ x1 x2 x3 y1 y2 y3 : Bool, sameF [.agg [vS a.name, vI a.quant, .sl 2 [] x1, .sl 0 [] x2, .sl 6 (a.cond.map nodeP) x3], .agg [vS a.name, vI a.quant, .sl jr [] y1, .sl jm [] y2, .sl j3 (a.cond.map nodeP) y3]] = some ([lenH ⟨a.name, a.quant, ([] : List Ref), ([] : List Row), a.cond⟩], vT true) := fun x1 x2 x3 y1 y2 y3 => sameS ([] : List Ref) ([] : List Row) a.cond (.inl rfl) (.inr rfl) (.inl rfl) hjr hjm k3
  simp -implicitDefEqProofs (maxSteps := 2000000) only [R0, R1, R2, R3, R4, R5, R6, R7, R8, R9, R10, R11, R12, R13, R14, R15, R16, PV.strip, stripL, PV.noref, ri, feedL, feeds, Nat.reduceBEq, Array.toList, ↓reduceIte, forall_const, implies_true, Nat.reduceEqDiff, reduceCtorEq, alP, bxP, bsP, ifP, quiet, riD, bs_l, PV.isRef, plainCell, norefL, PV.scalar, scalarL, PV.cells, PV.solid, PV.one, PV.free, freeL, fillP, splice, Nat.reduceAdd, Nat.reduceMul, Nat.reduceSub, Nat.reduceLeDiff, Nat.reduceLT, Int.reduceToNat, Int.reduceEq, Int.reduceLT, Int.reduceLE, Int.reduceNeg, E0_vc, vaN, PV.avoid, avoidL, Nat.reduceGT, W3, D3, -bs_l, fewE, hf, cE1, cE2, copyP, addK_r, spoK_r, lk_s, lb_t, lb_f, deep_r, brwD_a, eat_c, eat_n, kE1, kE2, hr, noHO, noHP, pAddE, rAddE, spoilE, sameE', keptE', List.length_map, lnumE, nrefs, nrows, nnodes, PV.noref, norefL, PV.scalar, mR_b, mS_b, mC_b, mR_b0, decide_true, Bool.not_true, ne_eq, not_true_eq_false, decide_false, hs, hs2, RB0]
  refine addC_pure hask ?_
  rw [hp]
  simp -implicitDefEqProofs (maxSteps := 2000000) only [R0, R1, R2, R3, R4, R5, R6, R7, R8, R9, R10, R11, R12, R13, R14, R15, R16, PV.strip, stripL, PV.noref, ri, feedL, feeds, Nat.reduceBEq, Array.toList, ↓reduceIte, forall_const, implies_true, Nat.reduceEqDiff, reduceCtorEq, alP, bxP, bsP, ifP, quiet, riD, bs_l, PV.isRef, plainCell, norefL, PV.scalar, scalarL, PV.cells, PV.solid, PV.one, PV.free, freeL, fillP, splice, Nat.reduceAdd, Nat.reduceMul, Nat.reduceSub, Nat.reduceLeDiff, Nat.reduceLT, Int.reduceToNat, Int.reduceEq, Int.reduceLT, Int.reduceLE, Int.reduceNeg, E0_vc, vaN, PV.avoid, avoidL, Nat.reduceGT, W3, D3, -bs_l, fewE, hf, cE1, cE2, copyP, addK_r, spoK_r, lk_s, lb_t, lb_f, deep_r, brwD_a, eat_c, eat_n, kE1, kE2, hr, noHO, noHP, pAddE, rAddE, spoilE, sameE', keptE', List.length_map, lnumE, nrefs, nrows, nnodes, PV.noref, norefL, PV.scalar, mR_b, mS_b, mC_b, mR_b0, decide_true, Bool.not_true, ne_eq, not_true_eq_false, decide_false, hs, hs2, RB0]
  refine ⟨za, zb, hl5, wr, wr, wa, wa, wb, wb, spoD rfl (mC_s _ _ hcl) ?_⟩
  simp -implicitDefEqProofs (maxSteps := 2000000) only [R0, R1, R2, R3, R4, R5, R6, R7, R8, R9, R10, R11, R12, R13, R14, R15, R16, PV.strip, stripL, PV.noref, ri, feedL, feeds, Nat.reduceBEq, Array.toList, ↓reduceIte, forall_const, implies_true, Nat.reduceEqDiff, reduceCtorEq, alP, bxP, bsP, ifP, quiet, riD, bs_l, PV.isRef, plainCell, norefL, PV.scalar, scalarL, PV.cells, PV.solid, PV.one, PV.free, freeL, fillP, splice, Nat.reduceAdd, Nat.reduceMul, Nat.reduceSub, Nat.reduceLeDiff, Nat.reduceLT, Int.reduceToNat, Int.reduceEq, Int.reduceLT, Int.reduceLE, Int.reduceNeg, E0_vc, vaN, PV.avoid, avoidL, Nat.reduceGT, W3, D3, -bs_l, fewE, hf, cE1, cE2, copyP, addK_r, spoK_r, lk_s, lb_t, lb_f, deep_r, brwD_a, eat_c, eat_n, kE1, kE2, hr, noHO, noHP, pAddE, rAddE, spoilE, sameE', keptE', List.length_map, lnumE, nrefs, nrows, nnodes, PV.noref, norefL, PV.scalar, mR_b, mS_b, mC_b, mR_b0, decide_true, Bool.not_true, ne_eq, not_true_eq_false, decide_false, hs, hs2, RB0]
  exact ⟨wr, wa, wa, wb⟩
end Go.Ve.H
end
section
set_option maxRecDepth 10000
set_option maxHeartbeats 8000000
namespace Go.Ve.H
open Go Go.Proofs Go.Ve Go.WideShapes Go.Deep
section
variable {X : Type} {enc : TypeId × Value → X} {W : World}
noncomputable abbrev trd (enc : TypeId × Value → X) (W : World) (n : Nat) (t : TypeId) (cs : List Value) : Option (DataW X × List MemPlace) := DataW.trod enc Try.prog W 0 (fun _ => true) true n t cs
noncomputable abbrev blk (d : DataW X) : Nat := Go.Proofs.Ytelhcaefmpnfkaa.Rows.uptoBulk d
noncomputable abbrev blkA (d : List (DataW X)) : Nat := Go.Proofs.Ytelhcaefmpnfkaa.Rows.uptoBulkAll d
theorem one_le (d : DataW X) : 1 ≤ blk d := by
 cases d with
 | lit l => cases l <;> simp [blk, Go.Proofs.Ytelhcaefmpnfkaa.Rows.uptoBulk]
 | _ => simp [blk, Go.Proofs.Ytelhcaefmpnfkaa.Rows.uptoBulk]
theorem part_le {d : DataW X} {l : List (DataW X)} (h : d ∈ l) : blk d ≤ blkA l := by
 induction l with
 | nil => cases h
 | cons x r ih =>
  simp only [blk, blkA, Go.Proofs.Ytelhcaefmpnfkaa.Rows.uptoBulkAll] at ih ⊢
  cases List.mem_cons.1 h with
  | inl e => subst e; omega
  | inr e => have := ih e; omega
theorem length_le (l : List (DataW X)) : l.length ≤ blkA l := by
 induction l with
 | nil => simp
 | cons x r ih => have := one_le x; simp only [blk, blkA, Go.Proofs.Ytelhcaefmpnfkaa.Rows.uptoBulkAll, List.length_cons] at ih this ⊢; omega
theorem agg_le (l : List (DataW X)) : blkA l ≤ blk (.agg l) := by simp only [blk, blkA, Go.Proofs.Ytelhcaefmpnfkaa.Rows.uptoBulk]; omega
theorem sli_le (l m : List (DataW X)) : blkA l ≤ blk (.slice l m) := by simp only [blk, blkA, Go.Proofs.Ytelhcaefmpnfkaa.Rows.uptoBulk]; omega
theorem str_eq (s : ByteArray) : s.size ≤ blk (.lit (.string s.data.toList) : DataW X) := by
 simp only [blk, Go.Proofs.Ytelhcaefmpnfkaa.Rows.uptoBulk, Array.length_toList]
 exact Nat.le_succ_of_le (Nat.le_refl _)
theorem rd_int {t : TypeId} {n : Nat} {cs : List Value} {y : DataW X × List MemPlace} (ht : Try.prog.underlying t = some (.int .i64)) (h : trd enc W n t cs = some y) : ∃ z, cs = [.int .i64 z] := by
 obtain ⟨z, h1, _⟩ := DataW.trod_int ht h
 exact ⟨z, h1⟩
theorem rd_str {t : TypeId} {n : Nat} {cs : List Value} {y : DataW X × List MemPlace} (ht : Try.prog.underlying t = some .string) (h : trd enc W n t cs = some y) : ∃ s, cs = [.string s] ∧ s.size ≤ blk y.1 := by
 obtain ⟨s, h1, h2, _⟩ := DataW.trod_string ht h
 exact ⟨s, h1, by rw [h2]; exact str_eq s⟩
theorem rd_struct {t : TypeId} {fs : Array Field} {n : Nat} {cs : List Value} {x : DataW X × List MemPlace} (ht : Try.prog.underlying t = some (.struct fs)) (h : trd enc W n t cs = some x) :
  cs.length = Try.prog.cellsOf t ∧ ∃ m, ∀ (i ty off : Nat), (fs[i]?.map fun f => (f.type, f.offset)) = some (ty, off) → ∃ y, trd enc W m ty ((cs.drop off).take (Try.prog.cellsOf ty)) = some y ∧ blk y.1 ≤ blk x.1 := by
 obtain ⟨xs, m, _, h1, h2, h3, h4⟩ := DataW.trod_struct ht h
 refine ⟨h2, m, fun i ty off he => ?_⟩
 obtain ⟨f, hf, he⟩ := Option.map_eq_some_iff.1 he
 obtain ⟨rfl, rfl⟩ := Prod.mk.inj he
 have hi : i < xs.length := by rw [h3]; exact (Array.getElem?_eq_some_iff.1 hf).1
 have h5 := h4 i f hf
 rw [List.getElem?_eq_getElem hi] at h5
 refine ⟨xs[i], h5, ?_⟩
 rw [h1]
 refine Nat.le_trans (part_le ?_) (agg_le (xs.map (·.1)))
 exact List.mem_map.2 ⟨xs[i], List.getElem_mem hi, rfl⟩
theorem co1 : Try.prog.cellsOf 2 = 1 ∧ Try.prog.cellsOf 3 = 1 ∧ Try.prog.cellsOf 9 = 1 := ⟨by kernel_rfl, by kernel_rfl, by kernel_rfl⟩
theorem co22 : Try.prog.cellsOf 22 = 1 ∧ Try.prog.cellsOf 23 = 1 ∧ Try.prog.cellsOf 25 = 1 := ⟨by kernel_rfl, by kernel_rfl, by kernel_rfl⟩
theorem co39 : Try.prog.cellsOf 39 = 2 := by kernel_rfl
theorem co46 : Try.prog.cellsOf 46 = 6 := by kernel_rfl
theorem co44 : Try.prog.cellsOf 44 = 50 := by kernel_rfl
theorem co42 : Try.prog.cellsOf 42 = 49 := by kernel_rfl
theorem co40 : Try.prog.cellsOf 40 = 48 := by kernel_rfl
theorem co27 : Try.prog.cellsOf 27 = 5 := by kernel_rfl
theorem rd_ref {n : Nat} {cs : List Value} {y : DataW X × List MemPlace} (h : trd enc W n 39 cs = some y) : ∃ r : Ref, cs = [.int .i64 r.t, .string r.n] ∧ r.n.size ≤ blk y.1 := by
 obtain ⟨hl, m, hf⟩ := rd_struct Try.underlying39 h
 rw [co39] at hl
 match cs, hl with
 | [a, b], _ =>
  obtain ⟨y0, g0', _⟩ := hf 0 3 0 rfl
  obtain ⟨y1, g1', b1⟩ := hf 1 9 1 rfl
  simp only [co1.2.1, co1.2.2, List.drop_zero, List.take_succ_cons, List.take_zero, List.drop_succ_cons] at g0' g1'
  obtain ⟨z, e0⟩ := rd_int Try.underlying3 g0'
  obtain ⟨s, e1, e2⟩ := rd_str Try.underlying9 g1'
  simp only [List.cons.injEq, and_true] at e0 e1
  exact ⟨⟨z, s⟩, by rw [e0, e1], Nat.le_trans e2 b1⟩
theorem rd_node {n : Nat} {cs : List Value} {y : DataW X × List MemPlace} (h : trd enc W n 46 cs = some y) : ∃ x : Node, cs = [.int .i64 x.op, .int .i64 x.a, .int .i64 x.b, .int .i64 x.ref.t, .string x.ref.n, .int .i64 x.val] ∧ x.ref.n.size ≤ blk y.1 := by
 obtain ⟨hl, m, hf⟩ := rd_struct Try.underlying46 h
 rw [co46] at hl
 match cs, hl with
 | [a, b, c, d, e, f], _ =>
  obtain ⟨y0, g0', _⟩ := hf 0 3 0 rfl
  obtain ⟨y1, g1', _⟩ := hf 1 3 1 rfl
  obtain ⟨y2, g2', _⟩ := hf 2 3 2 rfl
  obtain ⟨y3, g3', b3⟩ := hf 3 39 3 rfl
  obtain ⟨y4, g4', _⟩ := hf 4 2 5 rfl
  simp only [co1.1, co1.2.1, co39, List.drop_zero, List.take_succ_cons, List.take_zero, List.drop_succ_cons] at g0' g1' g2' g3' g4'
  obtain ⟨z0, e0⟩ := rd_int Try.underlying3 g0'
  obtain ⟨z1, e1⟩ := rd_int Try.underlying3 g1'
  obtain ⟨z2, e2⟩ := rd_int Try.underlying3 g2'
  obtain ⟨r, e3, e3'⟩ := rd_ref g3'
  obtain ⟨z4, e4⟩ := rd_int Try.underlying2 g4'
  simp only [List.cons.injEq, and_true] at e0 e1 e2 e3 e4
  exact ⟨⟨z0, z1, z2, r, z4⟩, by rw [e0, e1, e2, e3.1, e3.2, e4], Nat.le_trans e3' b3⟩
theorem ints_of : ∀ {k : Nat} {cs : List Value}, cs.length = k → (∀ i, i < k → ∃ z, (cs.drop i).take 1 = [.int .i64 z]) → ∃ v : List Int, v.length = k ∧ cs = v.map (.int .i64 ·)
 | 0, cs, hl, _ => ⟨[], rfl, List.length_eq_zero_iff.1 hl⟩
 | k + 1, c :: cs, hl, h => by
  obtain ⟨v, h1, h2⟩ := ints_of (k := k) (cs := cs) (by simpa using hl) fun i hi => by
   have := h (i + 1) (by omega)
   simpa using this
  obtain ⟨z, hz⟩ := h 0 (by omega)
  simp only [List.drop_zero, List.take_succ_cons, List.take_zero, List.cons.injEq, and_true] at hz
  exact ⟨z :: v, by simp [h1], by rw [hz, h2]; rfl⟩
theorem rd_row {n : Nat} {cs : List Value} {y : DataW X × List MemPlace} (h : trd enc W n 44 cs = some y) : ∃ r : Row, cs = .int .i64 r.c :: .int .i64 r.f.n :: r.f.v.map (.int .i64 ·) := by
 obtain ⟨hl, m, hf⟩ := rd_struct Try.underlying44 h
 rw [co44] at hl
 obtain ⟨y0, g0', _⟩ := hf 0 2 0 rfl
 obtain ⟨y1, g1', _⟩ := hf 1 42 1 rfl
 simp only [co1.1, co42] at g0' g1'
 obtain ⟨hl2, m2, hf2⟩ := rd_struct Try.underlying42 g1'
 obtain ⟨y2, g2', _⟩ := hf2 0 3 0 rfl
 obtain ⟨y3, g3', _⟩ := hf2 1 40 1 rfl
 simp only [co1.2.1, co40] at g2' g3'
 obtain ⟨xs, m3, _, _, h3, h4, h5⟩ := DataW.trod_array Try.underlying40 g3'
 obtain ⟨c, e0⟩ := rd_int Try.underlying2 g0'
 obtain ⟨k, e2⟩ := rd_int Try.underlying3 g2'
 match cs, hl with
 | a :: b :: cs, hl =>
  simp only [List.drop_zero, List.take_succ_cons, List.take_zero, List.drop_succ_cons, List.cons.injEq, and_true] at e0 e2
  have hcl : cs.length = 48 := by simpa using hl
  have ht : List.take 48 (List.drop 1 (List.take 49 (List.drop 1 (a :: b :: cs)))) = cs := by
   simp only [List.drop_succ_cons, List.drop_zero, List.take_succ_cons]
   rw [List.take_of_length_le (by rw [List.length_take]; omega), List.take_of_length_le (by omega)]
  obtain ⟨v, v1, v2⟩ := ints_of hcl fun i hi => by
   have := h5 i hi
   simp only [co1.1, Nat.mul_one] at this
   rw [ht, List.getElem?_eq_getElem (by omega)] at this
   exact rd_int Try.underlying2 this
  exact ⟨⟨c, ⟨k, v, v1⟩⟩, by rw [e0, e2, v2]⟩
theorem all_of {b o : Nat} {v : Value} (h : W.cell? ⟨b, o, none⟩ = some v) (h1 : v.oneCell' = true) : Fz.all W b o = some v := by
 simp [Fz.all, h, h1]
theorem repL_app {F : Fz} {R : List Nat} : ∀ {a b : List PV} {u v : List Value}, RepL F R a u → RepL F R b v → RepL F R (a ++ b) (u ++ v)
 | _, _, _, _, .nil, h => h
 | _, _, _, _, .cons h t, h' => .cons h (repL_app t h')
theorem rd_slice {α : Type} [Inhabited α] (e : α → PV) (k : Nat) (S : α → Nat) (hk : 0 < k) (hc : ∀ a, (e a).cells.length = k) {t el : TypeId} (ht : Try.prog.underlying t = some (.slice el)) (hel : Try.prog.cellsOf el = k)
  (hr : ∀ n cs (y : DataW X × List MemPlace), trd enc W n el cs = some y → ∃ a, RepL (Fz.all W) [] (e a).cells cs ∧ (∀ v ∈ cs, v.oneCell' = true) ∧ S a ≤ blk y.1) {n : Nat} {v : Value} {x : DataW X × List MemPlace}
  (h : trd enc W n t [v] = some x) (hs : ∀ a len cap, v = .slice (some a) len cap → a.spot = none) :
  ∃ l : List α, Rep (Fz.all W) [] (.sl k (l.map e) false) v ∧ v.oneCell' = true ∧ l.length ≤ blk x.1 ∧ ∀ a ∈ l, S a ≤ blk x.1 := by
 rcases open_slice ht h with ⟨h1, h2⟩ | ⟨a, len, cap, m, n', D, Pl, h1, _, hlc, _, hm, hx, hel'⟩
 ·simp only [List.cons.injEq, and_true] at h1
  subst h1
  exact ⟨[], .slnil, rfl, Nat.zero_le _, fun a ha => by cases ha⟩
 ·simp only [List.cons.injEq, and_true] at h1
  subst h1
  have hsp := hs a len cap rfl
  rw [if_pos rfl] at hm
  have hall : ∀ i, i < len → ∃ p : α × List Value, W.cells? 0 (a.add (i * k)) k = some p.2 ∧ RepL (Fz.all W) [] (e p.1).cells p.2 ∧ (∀ v ∈ p.2, v.oneCell' = true) ∧ S p.1 ≤ blk (D i) := fun i hi => by
   obtain ⟨cs', c1, c2⟩ := hel' i (by omega)
   rw [hel] at c1
   obtain ⟨z, z1, z2, z3⟩ := hr n' cs' _ c2
   exact ⟨⟨z, cs'⟩, c1, z1, z2, z3⟩
  obtain ⟨V, hV⟩ := choose_lt hall
  have hxb : ∀ i, i < len → blk (D i) ≤ blk x.1 := fun i hi => by
   rw [hx]
   refine Nat.le_trans (part_le ?_) (sli_le _ _)
   exact List.mem_map.2 ⟨i, List.mem_range.2 hi, rfl⟩
  have key : ∀ q, q ≤ len → RepL (Fz.all W) [] (((List.range q).map fun i => e (V i).1).flatMap PV.cells) ((List.range q).flatMap fun i => (V i).2) ∧ ((List.range q).flatMap fun i => (V i).2).length = q * k ∧
    ∀ (j : Nat) u, ((List.range q).flatMap fun i => (V i).2)[j]? = some u → Fz.all W a.block (a.off + j) = some u := by
   intro q
   induction q with
   | zero => intro _; exact ⟨by simp; exact .nil, by simp, fun j u hj => by simp at hj⟩
   | succ q ih =>
    intro hq
    obtain ⟨i1', i2, i3⟩ := ih (by omega)
    obtain ⟨c1, c2, c3, _⟩ := hV q (by omega)
    obtain ⟨_, d1, d2⟩ := World.cells?_some c1
    rw [List.range_succ, List.map_append, List.flatMap_append, List.flatMap_append]
    simp only [List.map_cons, List.map_nil, List.flatMap_cons, List.flatMap_nil, List.append_nil]
    refine ⟨repL_app i1' c2, by rw [List.length_append, i2, d1, Nat.succ_mul], fun j u hj => ?_⟩
    by_cases hjl : j < q * k
    ·rw [List.getElem?_append_left (by omega)] at hj
     exact i3 j u hj
    ·rw [List.getElem?_append_right (by omega), i2] at hj
     have hjk : j - q * k < k := by
      have := (List.getElem?_eq_some_iff.1 hj).1
      omega
     have hd := d2 (j - q * k) hjk
     rw [hj] at hd
     have ea : (a.add (q * k)).add (j - q * k) = ⟨a.block, a.off + j, none⟩ := by
      obtain ⟨ab, ao, asp⟩ := a
      simp only at hsp
      subst hsp
      simp only [Addr.add]
      have : ao + q * k + (j - q * k) = ao + j := by omega
      split <;> split <;> simp_all
     rw [ea] at hd
     exact all_of hd (c3 u (List.mem_of_getElem? hj))
  obtain ⟨k1, k2, k3⟩ := key len (Nat.le_refl _)
  refine ⟨(List.range len).map fun i => (V i).1, ?_, rfl, ?_, ?_⟩
  ·obtain ⟨ab, ao, asp⟩ := a
   simp only at hsp
   subst hsp
   refine .sl ((List.range len).flatMap fun i => (V i).2) hk (by simp) hlc ?_ k3 ?_
   ·intro y hy
    simp only [List.map_map, List.mem_map] at hy
    obtain ⟨i, _, rfl⟩ := hy
    exact hc _
   ·rw [List.map_map]; exact k1
  ·rw [List.length_map, List.length_range]
   have := length_le ((List.range len).map D)
   rw [List.length_map, List.length_range] at this
   rw [hx]
   exact Nat.le_trans this (sli_le _ _)
  ·intro z hz
   obtain ⟨i, hi, rfl⟩ := List.mem_map.1 hz
   have hi := List.mem_range.1 hi
   exact Nat.le_trans (hV i hi).2.2.2 (hxb i hi)
instance : Inhabited Ref := ⟨noRef⟩
instance : Inhabited Node := ⟨⟨0, 0, 0, noRef, 0⟩⟩
instance : Inhabited Row := ⟨noRow⟩
theorem rep_ints {F : Fz} {R : List Nat} : ∀ l : List Int, RepL F R (l.map vI) (l.map (.int .i64 ·))
 | [] => .nil
 | x :: l => .cons (.val rfl) (rep_ints l)
def hist5 (h : Hist) : PV := .agg [vS h.name, vI h.quant, .sl 2 (h.refs.map refP) false, .sl 50 (h.rows.map rowP) false, .sl 6 (h.cond.map nodeP) false]
theorem hist5_D (h : Hist) : histD (hist5 h) = some h := histD_of _ _ _ (.inl rfl) (.inl rfl) (.inl rfl)
theorem ct27 : ∃ ts, Try.prog.cellTypes Try.prog.depth 27 = some ts ∧ ts = [9, 3, 22, 23, 25] := ⟨_, by kernel_rfl, rfl⟩
theorem spot_of {w : World} {b : Nat} {t e : TypeId} (ht : Try.prog.underlying t = some (.slice e)) {v : Value} (h : Cell.okWide Try.prog w .any b t v) : ∀ a len cap, v = .slice (some a) len cap → a.spot = none := by
 rintro a len cap rfl
 simp only [Cell.okWide, ht, Cell.ok] at h
 exact h.2.2.2.1
theorem rd_hist {b : Nat} {v : Value} {d : DataW X} {ps : List MemPlace} (hv : Value.okWide Try.prog W .any b 27 v) (h : DataW.Trod enc Try.prog W 0 (fun _ => true) true 27 v d ps) :
  ∃ x : Hist, Rep (Fz.all W) [] (hist5 x) v ∧ x.name.size ≤ blk d ∧ (x.refs.length ≤ blk d ∧ ∀ r ∈ x.refs, r.n.size ≤ blk d) ∧ x.rows.length ≤ blk d ∧ (x.cond.length ≤ blk d ∧ ∀ r ∈ x.cond, r.ref.n.size ≤ blk d) := by
 obtain ⟨fuel, h⟩ := h
 simp only [Value.okWide, Try.underlying27] at hv
 obtain ⟨cs, rfl, hcs, ts, hts, _, hok⟩ := hv
 obtain ⟨ts', e1, e2⟩ := ct27
 rw [e1] at hts
 injection hts with hts
 rw [e2] at hts
 subst hts
 rw [co27] at hcs
 obtain ⟨hl, m, hf⟩ := rd_struct Try.underlying27 h
 obtain ⟨l⟩ := cs
 match l, hcs with
 | [c0, c1, c2, c3, c4], _ =>
  obtain ⟨y0, f0', b0⟩ := hf 0 9 0 rfl
  obtain ⟨y1, f1', _⟩ := hf 1 3 1 rfl
  obtain ⟨y2, f2', b2⟩ := hf 2 22 2 rfl
  obtain ⟨y3, f3', b3⟩ := hf 3 23 3 rfl
  obtain ⟨y4, f4', b4⟩ := hf 4 25 4 rfl
  simp only [Value.cells, co1.2.1, co1.2.2, co22.1, co22.2.1, co22.2.2, List.drop_zero, List.take_succ_cons, List.take_zero, List.drop_succ_cons] at f0' f1' f2' f3' f4'
  obtain ⟨s, k0, s0'⟩ := rd_str Try.underlying9 f0'
  obtain ⟨z, k1⟩ := rd_int Try.underlying3 f1'
  simp only [List.cons.injEq, and_true] at k0 k1
  subst k0; subst k1
  have o2 := hok 2 c2 rfl
  have o3 := hok 3 c3 rfl
  have o4 := hok 4 c4 rfl
  simp only [List.length_cons, List.length_nil, Nat.reduceAdd, Nat.reduceMod, List.getElem?_cons_succ, List.getElem?_cons_zero, Option.some.injEq, exists_eq_left'] at o2 o3 o4
  obtain ⟨lr, r1, r2, r3, r4⟩ := rd_slice refP 2 (fun r => r.n.size) (by decide) (fun _ => rfl) Try.underlying22 co39 (fun n cs y hy => by
   obtain ⟨r, rfl, hr⟩ := rd_ref hy
   exact ⟨r, .cons (.val rfl) (.cons (.val rfl) .nil), fun v hv => by simp only [List.mem_cons, List.not_mem_nil, or_false] at hv; rcases hv with rfl | rfl <;> rfl, hr⟩) f2' (spot_of Try.underlying22 o2)
  obtain ⟨lw, w1, w2, w3, _⟩ := rd_slice rowP 50 (fun _ => 0) (by decide) (fun r => by simp [rowP, PV.cells, r.f.hl]) Try.underlying23 co44 (fun n cs y hy => by
   obtain ⟨r, rfl⟩ := rd_row hy
   exact ⟨r, .cons (.val rfl) (.cons (.val rfl) (rep_ints _)), fun v hv => by
    simp only [List.mem_cons, List.mem_map] at hv
    rcases hv with rfl | rfl | ⟨_, _, rfl⟩ <;> rfl, Nat.zero_le _⟩) f3' (spot_of Try.underlying23 o3)
  obtain ⟨lc, n1, n2, n3, n4⟩ := rd_slice nodeP 6 (fun r => r.ref.n.size) (by decide) (fun _ => rfl) Try.underlying25 co46 (fun n cs y hy => by
   obtain ⟨r, rfl, hr⟩ := rd_node hy
   exact ⟨r, .cons (.val rfl) (.cons (.val rfl) (.cons (.val rfl) (.cons (.val rfl) (.cons (.val rfl) (.cons (.val rfl) .nil))))), fun v hv => by simp only [List.mem_cons, List.not_mem_nil, or_false] at hv; rcases hv with rfl | rfl | rfl | rfl | rfl | rfl <;> rfl, hr⟩) f4' (spot_of Try.underlying25 o4)
  refine ⟨⟨s, z, lr, lw, lc⟩, ?_, Nat.le_trans s0' b0, ⟨Nat.le_trans r3 b2, fun r hr => Nat.le_trans (r4 r hr) b2⟩, Nat.le_trans w3 b3, Nat.le_trans n3 b4, fun r hr => Nat.le_trans (n4 r hr) b4⟩
  refine .agg ?_ (.cons (.val rfl) (.cons (.val rfl) (.cons r1 (.cons w1 (.cons n1 .nil)))))
  intro v hv
  simp only [List.mem_cons, List.not_mem_nil, or_false] at hv
  rcases hv with rfl | rfl | rfl | rfl | rfl
  ·rfl
  ·rfl
  ·exact r2
  ·exact w2
  ·exact n2
end
end Go.Ve.H
end
namespace Go.Proofs.Ytelhcaefmpnfkaa.histAdds
open Go.ChangeShapes Go.WideShapes Go.ChangeAt Go.WideMaps Go.WideElems Go.RowKit Go.Ve Go.Ve.H
open Go.ChangeMaps (open_string shut_string)
theorem own : ownKnob Try.prog.godebug = none := by kernel_rfl
theorem laidOut : laidOutB Try.prog = true := by kernel_rfl
theorem below_of {P : Program} {G : Nat → Option (List PV)} {F F' : Fz} {R R' : List Nat} {B' : List Blk} {W w' : World} (h : Mem ⟨P, G, none, none, 0, []⟩ ⟨fun b => b < W.heap.size, W, F, R, [], R⟩ F' R' B' w') : Below W.heap.size W w' :=
 ⟨h.os, h.tape, h.output, h.size, fun k hk => (h.pr k hk).2⟩
theorem mem_start (P : Program) (W : World) : Mem ⟨P, G0, none, none, 0, []⟩ ⟨fun b => b < W.heap.size, W, Fz.all W, [], [], []⟩ (Fz.all W) [] [] W := {
 os := rfl
 tape := rfl
 output := rfl
 drn := Nat.le_refl _
 size := Nat.le_refl _
 pr := fun b hb => ⟨hb, rfl⟩
 fz := fun b o v h => by
  unfold Fz.all at h
  split at h
  ·rename_i u hu
   split at h
   ·rename_i h1
    injection h with h
    subst h
    exact ⟨hu, h1⟩
   ·cases h
  ·cases h
 fnew := fun _ _ _ h => .inl h
 fold := Fz.le_refl _
 rnew := fun _ h => by cases h
 rold := Rle.refl _
 bound := fun _ h => by cases h
 glob := fun _ _ h => by cases h
 len := rfl
 nd := List.nodup_nil
 blk := fun i c b h => by simp at h
 mks := fun _ h => by cases h
 mnd := List.nodup_nil }
theorem own_start (Pr : Nat → Prop) (F : Fz) (W : World) : Owned Pr F [] W (occB W [] []) := ⟨fun c => Nat.zero_le _, fun q hq => by cases hq⟩
theorem szs {X : Type} {d : DataW X} {x : Hist} (hb : blk d ≤ 1048576) (h : x.name.size ≤ blk d ∧ (x.refs.length ≤ blk d ∧ ∀ r ∈ x.refs, r.n.size ≤ blk d) ∧ x.rows.length ≤ blk d ∧ (x.cond.length ≤ blk d ∧ ∀ r ∈ x.cond, r.ref.n.size ≤ blk d)) : szH x ∧ smallH x := by
 obtain ⟨h1, ⟨h2, h3⟩, h4, h5, h6⟩ := h
 exact ⟨⟨by omega, ⟨by omega, fun r hr => by have := h3 r hr; omega⟩, by omega, ⟨by omega, fun r hr => by have := h6 r hr; omega⟩⟩, ⟨by omega, by omega, by omega⟩⟩
def zH : Value := .agg #[.string ⟨#[]⟩, .int .i64 0, .slice none 0 0, .slice none 0 0, .slice none 0 0]
def zD {H : Type} : DataW H := .agg [.lit (.string []), .lit (.int .i64 0), .nil, .nil, .nil]
set_option maxRecDepth 100000 in
theorem lifted (os : Os) (started : os.Started) (H : Type) (enc : TypeId × Value → H) (F : Stop.Interp) :
  ReturnsInHanded {} Try.checked os 3 .any ((Rows.OpenSpec.upto Rows.histAddsSpec).pre6 enc Try.prog Try.f3 [] false)
   (((Rows.OpenSpec.upto Rows.histAddsSpec).at F).post enc Try.prog Try.f3 false true false false) := by
 refine returnsInHanded_of_cond (C := Try.checked) (s := Rows.OpenSpec.upto Rows.histAddsSpec) (k := Rows.uptoSmall) rfl own started (by kernel_rfl) Try.func3
  (OpenSpec.witness (enc := enc) (C := Try.checked) (s := Rows.OpenSpec.upto Rows.histAddsSpec) (k := Rows.uptoSmall) rfl false ⟨#[], #[zH, zH], []⟩ 8 (by kernel_rfl) (by kernel_rfl) (by kernel_rfl)
   (x := ([zD, zD], [], [])) (by kernel_rfl) rfl (by kernel_rfl)) ?_
 intro W base args ds gs before hval0 hW _ hk _
 have hval : ∀ (j : Nat) t v, Try.f3.params[j]? = some t → args[j]? = some v → Value.okWide Try.prog W .any base t v := hval0
 have hW' := hW
 obtain ⟨p, q, hA0, hV, rfl, hfz, hnd⟩ := hW
 have hA : DataW.TrodAll enc Try.prog W 0 (fun _ => true) true Try.f3.params.toList args.toList ds p := hA0
 rw [Try.params3] at hA hval
 obtain ⟨v0, vs0, d0, ds0, p0, q0, hargs, rfl, rfl, h0, r0⟩ := trodAll_cons hA
 obtain ⟨v1, vs1, d1, ds1, p1, q1, rfl, rfl, rfl, h1, r1⟩ := trodAll_cons r0
 obtain ⟨rfl, rfl, rfl⟩ := trodAll_nil r1
 obtain rfl : args = #[v0, v1] := by cases args; simp_all
 obtain ⟨rfl, rfl⟩ := trodVars_none hV
 have k0 := h0
 have k1 := h1
 have lt0 : ∀ x ∈ p0, x.block < W.heap.size := by obtain ⟨m, hm⟩ := k0; exact DataW.trod_lt m _ _ _ hm
 have lt1 : ∀ x ∈ p1, x.block < W.heap.size := by obtain ⟨m, hm⟩ := k1; exact DataW.trod_lt m _ _ _ hm
 have hbulk : blk d0 + (blk d1 + 0) ≤ 1048576 := of_decide_eq_true hk
 obtain ⟨a, ra, sa⟩ := rd_hist (hval 0 27 v0 rfl rfl) h0
 obtain ⟨b, rb, sb⟩ := rd_hist (hval 1 27 v1 rfl rfl) h1
 obtain ⟨za, ya⟩ := szs (by omega) sa
 obtain ⟨zb, yb⟩ := szs (by omega) sb
 have hlaw : lawF [hist5 a, hist5 b] = some ([szH a, szH b, smallH a, smallH b], vT true) := by
  unfold lawF on2h
  simp only [hist5_D]
 refine (law_ok.2 (fun b => b < W.heap.size) (Fz.all W) [] [] W [hist5 a, hist5 b] #[v0, v1] (fun r _ => r = vT true) (Rle.refl _) (mem_start _ W) (.cons ra (.cons rb .nil)) (occL_free _ _ rfl) (own_start _ _ _) ⟨vT true, ⟨_, hlaw, fun p hp => ?_⟩, rfl⟩).mono fun e W' ⟨r, u, B', F', R', he, hr, hrep, hm, _⟩ => ?_
 ·simp only [List.mem_cons, List.not_mem_nil, or_false] at hp
  rcases hp with rfl | rfl | rfl | rfl <;> assumption
 subst he
 subst hr
 cases hrep
 have bel := below_of hm
 exact ⟨_, rfl, _, _, _, [], _, [], hW', trodAll_mk1 (shut_bool Try.underlying4 _), trodAll_cons_mk (Below.trod laidOut (by kernel_rfl) (of_decide_eq_true (by kernel_rfl)) k0 bel lt0) (trodAll_cons_mk (Below.trod laidOut (by kernel_rfl) (of_decide_eq_true (by kernel_rfl)) k1 bel lt1) trodAll_mk0), rfl, bel.frame _, fun h => by cases h⟩
end Go.Proofs.Ytelhcaefmpnfkaa.histAdds
namespace Go.Proofs.Ytelhcaefmpnfkaa
theorem histAdds_upto_holds : Rows.HistAddsUptoSaid :=
 OpenClaim.holds_of_cond 3 Try.f3 rfl rfl rfl rfl rfl rfl rfl ⟨rfl, rfl, rfl, rfl, rfl⟩ rfl rfl rfl rfl rfl (by kernel_rfl) Try.func3 (by kernel_rfl)
  (of_decide_eq_true (by kernel_rfl)) (by unfold Func.isWrapper; first | (rw [if_pos (by decide +kernel)]; kernel_rfl) | (rw [if_neg (by decide +kernel)]; exact ⟨rfl, rfl⟩))
  (fun os started H enc _ F => by rw [OpenClaim.pre_of_none' rfl]; exact histAdds.lifted os started H enc F)
end Go.Proofs.Ytelhcaefmpnfkaa
