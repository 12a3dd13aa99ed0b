/- weirlaw30.HistTexts: part of the proof (a value semantics for the model's code, and the functions told by it). -/
import Derived.Test.YtdfajmeabnmhjaaGreatDoorA29
import Derived.Test.YtdfajmeabnmhjaaGreatDoorRows
import Derived.WalkKit
import Derived.ProofKit
import Derived.OpenShut
import Derived.JoinedCond
import Derived.Lib.LaidTab
import Derived.Deep.Slices
set_option linter.unusedSimpArgs false
set_option linter.unusedVariables false
set_option linter.deprecated false
set_option linter.unusedSectionVars false
set_option linter.defProp false
section
set_option maxRecDepth 10000
set_option maxHeartbeats 8000000
namespace Go.Ve.H
open Go Go.Proofs Go.Ve
def txB (h : Hist) : List PV := if okH h = true then (if (logB h).size ≤ 1048576 then [vS (logB h), vI 0] else [vS ⟨#[]⟩, vI 1]) else [vS ⟨#[]⟩, vI 300]
def txHF := on1h fun h => ([SzL h], .tuple (txB h))
def pTxtF := txHF
def rTxtF := txHF
theorem txHE {n : ByteArray} {q : Int} {r : List Ref} {s : List Row} {c : List Node} {j1 j2 j3 : Nat} {o1 o2 o3 : Bool} (h1 : j1 = 2 ∨ r = []) (h2 : j2 = 50 ∨ s = []) (h3 : j3 = 6 ∨ c = []) :
  txHF [.agg [vS n, vI q, .sl j1 (r.map refP) o1, .sl j2 (s.map rowP) o2, .sl j3 (c.map nodeP) o3]] = some ([SzL ⟨n, q, r, s, c⟩], .tuple (txB ⟨n, q, r, s, c⟩)) := by
 simp only [txHF, on1h, histD_of _ _ _ h1 h2 h3]
theorem logB_size {h : Hist} (hL : SzL h) (ho : OkH h) : (logB h).size ≤ 140737488355328 := by
 have hh0 := headB_size hL
 have hw := words_size h.quant
 have hnm := hL.name
 have hrl := hL.rows
 obtain ⟨s1, s2, s3⟩ := ho.sums
 have hip := itoa_size (n := posN h) (by unfold inI64; omega)
 have hin := itoa_size (n := negN h) (by unfold inI64; omega)
 have hcz : (condB h).size ≤ 1073807360 := text_sizeN (N := 1048576) (ckLast ho.cond).1 hL.tx hL.cnames
 have hrs := rowsB_size hL ho h.rows (headB h) fun _ hr => hr
 have hrm : h.rows.length * 67108864 ≤ 1048576 * 67108864 := Nat.mul_le_mul_right _ hrl
 have k1 : (okB h).size ≤ 2 := by unfold okB; cases validB h.quant (posN h) (negN h) <;> exact Nat.le_refl 2
 have k2 : (isB h).size ≤ 13 := by
  unfold isB
  cases validB h.quant (posN h) (negN h)
  ·exact Nat.le_refl 13
  ·show 9 ≤ 13; omega
 have k3 : (seenB h).size ≤ 9 := by
  unfold seenB
  cases decide (posN h = 0)
  ·cases decide (negN h = 0)
   ·exact Nat.le_refl 9
   ·show 6 ≤ 9; omega
  ·show 5 ≤ 9; omega
 have z0 : (⟨#[10, 10, 87, 105, 116, 110, 101, 115, 115, 101, 115, 10, 80, 111, 115, 105, 116, 105, 118, 101, 58, 32]⟩ : ByteArray).size = 22 := rfl
 have z1 : (⟨#[44, 32, 78, 101, 103, 97, 116, 105, 118, 101, 58, 32]⟩ : ByteArray).size = 12 := rfl
 have z2 : (⟨#[10, 67, 111, 110, 100, 105, 116, 105, 111, 110, 32]⟩ : ByteArray).size = 11 := rfl
 have z3 : (⟨#[32]⟩ : ByteArray).size = 1 := rfl
 have z4 : (⟨#[32, 105, 115, 32]⟩ : ByteArray).size = 4 := rfl
 have z5 : (⟨#[10, 79, 98, 115, 101, 114, 118, 97, 116, 105, 111, 110, 32]⟩ : ByteArray).size = 13 := rfl
 have z6 : (⟨#[10]⟩ : ByteArray).size = 1 := rfl
 unfold logB tailB
 simp only [ByteArray.size_append, z0, z1, z2, z3, z4, z5, z6]
 omega
def D8 : FuncId → Option CB
 | 16 => some (.fn pWrF)
 | _ => none
theorem D8_ok : AllB E0 D8 := fun g c h => by
 unfold D8 at h
 split at h <;> simp at h <;> subst h
 ·exact pWr_ok
def W8 := And.intro @Tryz.results8 (And.intro @ag27 (And.intro @sz27 (And.intro @Tryz.underlying9 (@pWrE))))
theorem pTxt_ok : Sound Tryz.prog G0 8 (conT (CB.fn pTxtF).toCon) := by
 refine fn_of D8_ok mixed true Tryz.func8 (by decide) rfl _ ?_
 intro args ps r hq hp
 obtain ⟨p, h, rfl, hh, hx⟩ := on1h_inv hq
 obtain ⟨rfl, rfl⟩ := Prod.mk.inj hx
 have hL : SzL h := hp (SzL h) (by simp)
 refine ⟨by simp only [norefL, nr_hist hh, Bool.and_self], ?_⟩
 simp only [awpBFn, Tryz.ntmps8, List.length_cons, List.length_nil, Nat.reduceAdd, Nat.reduceSub, List.replicate_succ, List.replicate_zero, List.cons_append, List.nil_append, List.map_cons, List.map_nil]
 obtain ⟨j1, o1, j2, o2, j3, o3, rfl, k1, k2, k3⟩ := hh
 have e1 := fun x y z => pWrE (n := h.name) (q := h.quant) (o1 := x) (o2 := y) (o3 := z) k1 k2 k3
 by_cases hok : okH h = true
 case neg =>
  simp -implicitDefEqProofs (maxSteps := 2000000) only [R0, R1, R2, R3, R4, R5, R6, R7, R8, R9, R10, R11, R12, R13, R14, R15, R16, PV.strip, stripL, PV.noref, ri, feedL, feeds, Nat.reduceBEq, Array.toList, ↓reduceIte, forall_const, implies_true, Nat.reduceEqDiff, reduceCtorEq, alP, bxP, bsP, ifP, quiet, riD, bs_l, PV.isRef, plainCell, norefL, PV.scalar, scalarL, PV.cells, PV.solid, PV.one, PV.free, freeL, fillP, splice, Nat.reduceAdd, Nat.reduceMul, Nat.reduceSub, Nat.reduceLeDiff, Nat.reduceLT, Int.reduceToNat, Int.reduceEq, Int.reduceLT, Int.reduceLE, Int.reduceNeg, E0_vc, vaN, PV.avoid, avoidL, Nat.reduceGT, W8, D8, List.length_map, e1, pWrB, txB, hok, RB0]
  exact hL
 have hs := logB_size hL (okH_inv hok)
 by_cases hl : (logB h).size ≤ 1048576
 ·have hl' : ¬ (1048576 : Int) < ((logB h).size : Int) := by omega
  simp -implicitDefEqProofs (maxSteps := 2000000) only [R0, R1, R2, R3, R4, R5, R6, R7, R8, R9, R10, R11, R12, R13, R14, R15, R16, PV.strip, stripL, PV.noref, ri, feedL, feeds, Nat.reduceBEq, Array.toList, ↓reduceIte, forall_const, implies_true, Nat.reduceEqDiff, reduceCtorEq, alP, bxP, bsP, ifP, quiet, riD, bs_l, PV.isRef, plainCell, norefL, PV.scalar, scalarL, PV.cells, PV.solid, PV.one, PV.free, freeL, fillP, splice, Nat.reduceAdd, Nat.reduceMul, Nat.reduceSub, Nat.reduceLeDiff, Nat.reduceLT, Int.reduceToNat, Int.reduceEq, Int.reduceLT, Int.reduceLE, Int.reduceNeg, E0_vc, vaN, PV.avoid, avoidL, Nat.reduceGT, W8, D8, List.length_map, e1, pWrB, txB, hok, hl, hl', RB0]
  exact hL
 ·have hl' : (1048576 : Int) < ((logB h).size : Int) := by omega
  simp -implicitDefEqProofs (maxSteps := 2000000) only [R0, R1, R2, R3, R4, R5, R6, R7, R8, R9, R10, R11, R12, R13, R14, R15, R16, PV.strip, stripL, PV.noref, ri, feedL, feeds, Nat.reduceBEq, Array.toList, ↓reduceIte, forall_const, implies_true, Nat.reduceEqDiff, reduceCtorEq, alP, bxP, bsP, ifP, quiet, riD, bs_l, PV.isRef, plainCell, norefL, PV.scalar, scalarL, PV.cells, PV.solid, PV.one, PV.free, freeL, fillP, splice, Nat.reduceAdd, Nat.reduceMul, Nat.reduceSub, Nat.reduceLeDiff, Nat.reduceLT, Int.reduceToNat, Int.reduceEq, Int.reduceLT, Int.reduceLE, Int.reduceNeg, E0_vc, vaN, PV.avoid, avoidL, Nat.reduceGT, W8, D8, List.length_map, e1, pWrB, txB, hok, hl, hl', RB0]
  exact hL
def D9 : FuncId → Option CB
 | 12 => some (.fn rHCheckF)
 | 17 => some (.fn rLogF)
 | _ => none
theorem D9_ok : AllB E0 D9 := fun g c h => by
 unfold D9 at h
 split at h <;> simp at h <;> subst h
 ·exact rHCheck_ok
 ·exact rLog_ok
def W9 := And.intro @Tryz.results9 (And.intro @ag27 (And.intro @sz27 (And.intro @Tryz.underlying9 (And.intro @rHCheckE (@rLogE)))))
theorem rTxt_ok : Sound Tryz.prog G0 9 (conT (CB.fn rTxtF).toCon) := by
 refine fn_of D9_ok mixed true Tryz.func9 (by decide) rfl _ ?_
 intro args ps r hq hp
 obtain ⟨p, h, rfl, hh, hx⟩ := on1h_inv hq
 obtain ⟨rfl, rfl⟩ := Prod.mk.inj hx
 have hL : SzL h := hp (SzL h) (by simp)
 refine ⟨by simp only [norefL, nr_hist hh, Bool.and_self], ?_⟩
 simp only [awpBFn, Tryz.ntmps9, List.length_cons, List.length_nil, Nat.reduceAdd, Nat.reduceSub, List.replicate_succ, List.replicate_zero, List.cons_append, List.nil_append, List.map_cons, List.map_nil]
 obtain ⟨j1, o1, j2, o2, j3, o3, rfl, k1, k2, k3⟩ := hh
 have e1 := fun x y z => rHCheckE (n := h.name) (q := h.quant) (o1 := x) (o2 := y) (o3 := z) k1 k2 k3
 have e2 := fun x y z o => rLogE (n := h.name) (q := h.quant) (o1 := x) (o2 := y) (o3 := z) (o := o) k1 k2 k3
 by_cases hok : okH h = true
 case neg =>
  have hno := checkH_no (by simpa using hok)
  simp -implicitDefEqProofs (maxSteps := 2000000) only [R0, R1, R2, R3, R4, R5, R6, R7, R8, R9, R10, R11, R12, R13, R14, R15, R16, PV.strip, stripL, PV.noref, ri, feedL, feeds, Nat.reduceBEq, Array.toList, ↓reduceIte, forall_const, implies_true, Nat.reduceEqDiff, reduceCtorEq, alP, bxP, bsP, ifP, quiet, riD, bs_l, PV.isRef, plainCell, norefL, PV.scalar, scalarL, PV.cells, PV.solid, PV.one, PV.free, freeL, fillP, splice, Nat.reduceAdd, Nat.reduceMul, Nat.reduceSub, Nat.reduceLeDiff, Nat.reduceLT, Int.reduceToNat, Int.reduceEq, Int.reduceLT, Int.reduceLE, Int.reduceNeg, E0_vc, vaN, PV.avoid, avoidL, Nat.reduceGT, W9, D9, List.length_map, e1, e2, hno, txB, hok, RB0]
  exact hL.sz
 have hyes := checkH_ok hok
 by_cases hl : (logB h).size ≤ 1048576
 ·have hr := (log_eq h).1 hl
  have hl' : ¬ (1048576 : Int) < ((logB h).size : Int) := by omega
  simp -implicitDefEqProofs (maxSteps := 2000000) only [R0, R1, R2, R3, R4, R5, R6, R7, R8, R9, R10, R11, R12, R13, R14, R15, R16, PV.strip, stripL, PV.noref, ri, feedL, feeds, Nat.reduceBEq, Array.toList, ↓reduceIte, forall_const, implies_true, Nat.reduceEqDiff, reduceCtorEq, alP, bxP, bsP, ifP, quiet, riD, bs_l, PV.isRef, plainCell, norefL, PV.scalar, scalarL, PV.cells, PV.solid, PV.one, PV.free, freeL, fillP, splice, Nat.reduceAdd, Nat.reduceMul, Nat.reduceSub, Nat.reduceLeDiff, Nat.reduceLT, Int.reduceToNat, Int.reduceEq, Int.reduceLT, Int.reduceLE, Int.reduceNeg, E0_vc, vaN, PV.avoid, avoidL, Nat.reduceGT, W9, D9, List.length_map, e1, e2, hyes, hr, txB, hok, hl, hl', RB0]
  exact ⟨hL.sz, hL⟩
 ·have hr := (log_eq h).2 (by omega)
  have hl' : (1048576 : Int) < ((logR h).size : Int) := by omega
  simp -implicitDefEqProofs (maxSteps := 2000000) only [R0, R1, R2, R3, R4, R5, R6, R7, R8, R9, R10, R11, R12, R13, R14, R15, R16, PV.strip, stripL, PV.noref, ri, feedL, feeds, Nat.reduceBEq, Array.toList, ↓reduceIte, forall_const, implies_true, Nat.reduceEqDiff, reduceCtorEq, alP, bxP, bsP, ifP, quiet, riD, bs_l, PV.isRef, plainCell, norefL, PV.scalar, scalarL, PV.cells, PV.solid, PV.one, PV.free, freeL, fillP, splice, Nat.reduceAdd, Nat.reduceMul, Nat.reduceSub, Nat.reduceLeDiff, Nat.reduceLT, Int.reduceToNat, Int.reduceEq, Int.reduceLT, Int.reduceLE, Int.reduceNeg, E0_vc, vaN, PV.avoid, avoidL, Nat.reduceGT, W9, D9, List.length_map, e1, e2, hyes, txB, hok, hl, hl', RB0]
  exact ⟨hL.sz, hL⟩
end Go.Ve.H
end
section
set_option maxRecDepth 10000
set_option maxHeartbeats 8000000
namespace Go.Ve.H
open Go Go.Proofs Go.Ve
def endRef : Ref := ⟨-7, { data := #[] }⟩
def endRow : Row := ⟨-7, noFin⟩
def endNode : Node := ⟨-7, 0, 0, noRef, 0⟩
def copyP (h : Hist) : PV := .agg [vS h.name, vI h.quant, .slt 2 (h.refs.map refP) [refP endRef], .slt 50 (h.rows.map rowP) [rowP endRow], .slt 6 (h.cond.map nodeP) [nodeP endNode]]
def smallH (h : Hist) : Prop := h.refs.length ≤ 100000000 ∧ h.rows.length ≤ 100000000 ∧ h.cond.length ≤ 100000000
def copiedF := on1h fun h => ([smallH h], copyP h)
theorem tkl {α : Type} (e : α → PV) (l : List α) (x : PV) : List.take l.length (l.map e ++ [x]) = l.map e := List.take_left' (by rw [List.length_map])
theorem drl {α : Type} (e : α → PV) (l : List α) (x : PV) : List.drop l.length (l.map e ++ [x]) = [x] := List.drop_left' (by rw [List.length_map])
theorem zr50 : List.drop 1 (List.replicate 50 (PV.val (.int .i64 0))) = vI noFin.n :: noFin.v.map vI := rfl
theorem copied_ok : Sound Tryz.prog G0 5 (conT (CB.fn copiedF).toCon) := by
 refine fn_of DN_ok mixed true Tryz.func5 (by decide) rfl _ ?_
 intro args ps r hq hp
 obtain ⟨p, h, rfl, hh, hx⟩ := on1h_inv hq
 obtain ⟨rfl, rfl⟩ := Prod.mk.inj hx
 have hz := hp (smallH h) (by simp)
 refine ⟨by simp only [norefL, nr_hist hh, Bool.and_self], ?_⟩
 simp only [awpBFn, Tryz.ntmps5, List.length_cons, List.length_nil, Nat.reduceAdd, Nat.reduceSub, List.replicate_succ, List.replicate_zero, List.cons_append, List.nil_append, List.map_cons, List.map_nil]
 obtain ⟨j1, o1, j2, o2, j3, o3, rfl, k1, k2, k3⟩ := hh
 have hll := fun (A B : Blk) (cs : List PV) => @ld_live Tryz.prog 27 [A, .live cs, B] 1 0 cs rfl
 simp -implicitDefEqProofs (maxSteps := 2000000) only [R0, R1, R2, R3, R4, R5, R6, R7, R8, R9, R10, R11, R12, R13, R14, R15, R16, PV.strip, stripL, PV.noref, ri, feedL, feeds, Nat.reduceBEq, Array.toList, ↓reduceIte, forall_const, implies_true, Nat.reduceEqDiff, reduceCtorEq, alP, bxP, bsP, ifP, quiet, riD, bs_l, PV.isRef, plainCell, norefL, PV.scalar, scalarL, PV.cells, PV.solid, PV.one, PV.free, freeL, fillP, splice, Nat.reduceAdd, Nat.reduceMul, Nat.reduceSub, Nat.reduceLeDiff, Nat.reduceLT, Int.reduceToNat, Int.reduceEq, Int.reduceLT, Int.reduceLE, Int.reduceNeg, E0_vc, vaN, PV.avoid, avoidL, Nat.reduceGT, Tryz.results5, ld27, zp27, ag27, sz27, Tryz.underlying22, sz45, zs45, fa27_2, ag22, sz22, zd22, by45, bu45, zd45, Tryz.underlying23, sz50, zs50, fa27_3, ag23, sz23, zd23, by50, bu50, zd50, Tryz.underlying25, sz52, zs52, fa27_4, ag25, sz25, zd25, by52, bu52, zd52, List.length_map, rgA, Int.toNat_natCast, tkl, drl, zr50, strip_vI, free_vI, hl48, rb2, rc_s, lq_t, lq_f, hll, RB0]
 obtain ⟨z1, z2, z3⟩ := hz
 have hroom : ∀ k b : Nat, k ≤ 100000001 → b ≤ 400 → roomy k b = true := fun k b hk hb => by
  unfold roomy
  have h1 : k * (b + 1) ≤ 100000001 * 401 := Nat.mul_le_mul hk (by omega)
  exact decide_eq_true (by omega)
 refine ⟨.inl (by decide), hroom _ _ (by omega) (by omega), k1.imp id (fun e => by rw [e]; rfl), hroom _ _ (by omega) (by omega), by simp; omega, .inl (by decide), hroom _ _ (by omega) (by omega), k2.imp id (fun e => by rw [e]; rfl), hroom _ _ (by omega) (by omega), by simp; omega, .inl (by decide), hroom _ _ (by omega) (by omega), k3.imp id (fun e => by rw [e]; rfl), hroom _ _ (by omega) (by omega), by simp; omega, rfl, ?_⟩
 simp [copyP, PV.noref, norefL, norefL_eq, nr_ref, nr_row, nr_node]
theorem copiedE {n : ByteArray} {q : Int} {r : List Ref} {s : List Row} {c : List Node} {j1 j2 j3 : Nat} {o1 o2 o3 : Bool} (h1 : j1 = 2 ∨ r = []) (h2 : j2 = 50 ∨ s = []) (h3 : j3 = 6 ∨ c = []) :
  copiedF [.agg [vS n, vI q, .sl j1 (r.map refP) o1, .sl j2 (s.map rowP) o2, .sl j3 (c.map nodeP) o3]] = some ([smallH ⟨n, q, r, s, c⟩], copyP ⟨n, q, r, s, c⟩) := by
 simp only [copiedF, on1h, histD_of _ _ _ h1 h2 h3]
def copyD : PV → Option Hist
 | .agg [.val (.string n), .val (.int .i64 q), .slt 2 r r2, .slt 50 s s2, .slt 6 c c2] => match decL refD r, decL rowD s, decL nodeD c, decL refD r2, decL rowD s2, decL nodeD c2 with
  | some r, some s, some c, some [r2], some [s2], some [c2] => if r2 = endRef ∧ s2 = endRow ∧ c2 = endNode then some ⟨n, q, r, s, c⟩ else none
  | _, _, _, _, _, _ => none
 | _ => none
theorem copyD_P (h : Hist) : copyD (copyP h) = some h := by
 have e1 : decL refD [refP endRef] = some [endRef] := rfl
 have e2 : decL rowD [rowP endRow] = some [endRow] := decL_map rowD_P [endRow]
 have e3 : decL nodeD [nodeP endNode] = some [endNode] := rfl
 simp only [copyD, copyP, decL_map refD_P, decL_map rowD_P, decL_map nodeD_P, e1, e2, e3]
 rfl
theorem copyD_inv {p : PV} {h : Hist} (hd : copyD p = some h) : p = copyP h := by
 unfold copyD at hd
 split at hd
 ·split at hd
  ·rename_i h1 h2 h3 h4 h5 h6
   split at hd
   ·rename_i he
    injection hd with hd; subst hd
    obtain ⟨e1, e2, e3⟩ := he
    subst e1; subst e2; subst e3
    have a1 := decL_inv (fun _ _ => refD_inv) h1
    have a2 := decL_inv (fun _ _ => rowD_inv) h2
    have a3 := decL_inv (fun _ _ => nodeD_inv) h3
    have a4 := decL_inv (fun _ _ => refD_inv) h4
    have a5 := decL_inv (fun _ _ => rowD_inv) h5
    have a6 := decL_inv (fun _ _ => nodeD_inv) h6
    subst a1; subst a2; subst a3; subst a4; subst a5; subst a6
    rfl
   ·cases hd
  ·cases hd
 ·cases hd
end Go.Ve.H
end
section
set_option maxRecDepth 10000
set_option maxHeartbeats 8000000
namespace Go.Ve.H
open Go Go.Proofs Go.Ve
def sameTF : List PV → Option (List Prop × PV) := fun a => sameF (unsltL a)
theorem sameT_ok : Sound Tryz.prog G0 29 (conT (CB.fn sameTF).toCon) := same_ok.unslt
theorem sameTE (a : Hist) {n' : ByteArray} {q' : Int} {r' : List Ref} {s' : List Row} {c' : List Node} {l1 l2 l3 : Nat} {p1 p2 p3 : Bool} (m1 : l1 = 2 ∨ r' = []) (m2 : l2 = 50 ∨ s' = []) (m3 : l3 = 6 ∨ c' = []) (x y z : List PV) :
  sameTF [.agg [vS a.name, vI a.quant, .slt 2 (a.refs.map refP) x, .slt 50 (a.rows.map rowP) y, .slt 6 (a.cond.map nodeP) z], .agg [vS n', vI q', .sl l1 (r'.map refP) p1, .sl l2 (s'.map rowP) p2, .sl l3 (c'.map nodeP) p3]] = some ([lenH a], vT (decide (SameHist a ⟨n', q', r', s', c'⟩))) := by
 have h := @sameE a.name n' a.quant q' a.refs r' a.rows s' a.cond c' 2 50 6 l1 l2 l3 false false false p1 p2 p3 (.inl rfl) (.inl rfl) (.inl rfl) m1 m2 m3
 exact h
def keptF : List PV → Option (List Prop × PV)
 | [p, q] => match copyD p, histD q with
  | some a, some b => some ([lenH a, lenH b], vT (decide (SameHist a b)))
  | _, _ => none
 | _ => none
theorem keptF_inv {args : List PV} {x : List Prop × PV} (h : keptF args = some x) : ∃ q a b, args = [copyP a, q] ∧ IsH q b ∧ x = ([lenH a, lenH b], vT (decide (SameHist a b))) := by
 unfold keptF at h
 split at h
 ·split at h
  ·rename_i h1 h2
   injection h with h
   exact ⟨_, _, _, by rw [copyD_inv h1], histD_inv h2, h.symm⟩
  ·cases h
 ·cases h
theorem mp_ref (l : List Ref) : List.map refP l ++ [PV.agg [vI endRef.t, vS endRef.n]] = List.map refP (l ++ [endRef]) := by rw [List.map_append]; rfl
theorem mp_row (l : List Row) : List.map rowP l ++ [PV.agg (vI endRow.c :: vI endRow.f.n :: endRow.f.v.map vI)] = List.map rowP (l ++ [endRow]) := by rw [List.map_append]; rfl
theorem mp_node (l : List Node) : List.map nodeP l ++ [PV.agg [vI endNode.op, vI endNode.a, vI endNode.b, vI endNode.ref.t, vS endNode.ref.n, vI endNode.val]] = List.map nodeP (l ++ [endNode]) := by rw [List.map_append]; rfl
theorem tk_all {α : Type} {l m : List α} {e : α} (h : l = m) : List.take ((m.length : Int) + 1).toNat (l ++ [e]) = l ++ [e] := by
 subst h; exact List.take_of_length_le (by simp)
theorem gd_end {α : Type} {l m : List α} {e d : α} (h : l = m) : (l ++ [e]).getD m.length d = e := by
 subst h; simp [List.getD_eq_getElem?_getD]
def D13 : FuncId → Option CB
 | 29 => some (.fn sameTF)
 | _ => none
theorem D13_ok : AllB E0 D13 := fun g c h => by
 unfold D13 at h
 split at h <;> simp at h <;> subst h
 ·exact sameT_ok
theorem kept_ok : Sound Tryz.prog G0 13 (conT (CB.fn keptF).toCon) := by
 refine fn_of D13_ok mixed true Tryz.func13 (by decide) rfl _ ?_
 intro args ps r hq hp
 obtain ⟨q, a, b, rfl, hb, hx⟩ := keptF_inv hq
 obtain ⟨rfl, rfl⟩ := Prod.mk.inj hx
 have ha := hp (lenH a) (by simp)
 have hbl := hp (lenH b) (by simp)
 refine ⟨by simp [norefL, nr_hist hb, copyP, PV.noref, norefL_eq, nr_map nr_ref, nr_map nr_row, nr_map nr_node, nr_ref, nr_row, nr_node], ?_⟩
 simp only [awpBFn, Tryz.ntmps13, List.length_cons, List.length_nil, Nat.reduceAdd, Nat.reduceSub, List.replicate_succ, List.replicate_zero, List.cons_append, List.nil_append, List.map_cons, List.map_nil]
 obtain ⟨l1, p1, l2, p2, l3, p3, rfl, m1, m2, m3⟩ := hb
 have hE := fun o1 o2 o3 => sameTE a (n' := b.name) (q' := b.quant) (p1 := o1) (p2 := o2) (p3 := o3) m1 m2 m3
 simp only [copyP]
 simp -implicitDefEqProofs (maxSteps := 2000000) only [R0, R1, R2, R3, R4, R5, R6, R7, R8, R9, R10, R11, R12, R13, R14, R15, R16, PV.strip, stripL, PV.noref, ri, feedL, feeds, Nat.reduceBEq, Array.toList, ↓reduceIte, forall_const, implies_true, Nat.reduceEqDiff, reduceCtorEq, alP, bxP, bsP, ifP, quiet, riD, bs_l, PV.isRef, plainCell, norefL, PV.scalar, scalarL, PV.cells, PV.solid, PV.one, PV.free, freeL, fillP, splice, Nat.reduceAdd, Nat.reduceMul, Nat.reduceSub, Nat.reduceLeDiff, Nat.reduceLT, Int.reduceToNat, Int.reduceEq, Int.reduceLT, Int.reduceLE, Int.reduceNeg, E0_vc, vaN, PV.avoid, avoidL, Nat.reduceGT, Tryz.results13, ag27, sz27, fa27_2, ag22, sz22, zd22, Tryz.underlying22, sz45, zd45, fa45_0, ag3, sz3, zd3, fa27_3, ag23, sz23, zd23, Tryz.underlying23, sz50, zd50, fa50_0, ag2, sz2, zd2, fa27_4, ag25, sz25, zd25, Tryz.underlying25, sz52, zd52, fa52_0, D13, sameE, hE, gd_ref, gd_row, gd_node, refP, rowP, nodeP, mp_ref, mp_row, mp_node, ← List.map_take, ← List.map_drop, List.drop_zero, Int.toNat_natCast, List.length_map, len48, hl48, PV.cells, RB0]
 refine ⟨.inl (by decide), ?_⟩
 obtain ⟨b1, b2, b3⟩ := hbl
 by_cases hs : SameHist a b
 ·have er := hs.2.2.1
  have ew := hs.2.2.2.1
  have ec := hs.2.2.2.2
  rw [tk_all er, tk_all ew, tk_all ec, gd_end er, gd_end ew, gd_end ec]
  have n1 : (a.refs ++ [endRef]).length = b.refs.length + 1 := by rw [er]; simp
  have n2 : (a.rows ++ [endRow]).length = b.rows.length + 1 := by rw [ew]; simp
  have n3 : (a.cond ++ [endNode]).length = b.cond.length + 1 := by rw [ec]; simp
  rw [n1, n2, n3, er, ew, ec]
  refine ⟨ha, fun _ => by unfold inI64; omega, fun _ => by omega, fun _ => by omega, fun _ => by unfold inI64; omega, fun _ => by omega, fun _ => by omega, fun _ => by unfold inI64; omega, fun _ => by omega, fun _ => by omega, ?_⟩
  show vT (decide (SameHist a b) && true && true && true) = _
  simp only [Bool.and_true]
 ·refine ⟨ha, fun h => absurd h hs, fun h => absurd h hs, fun h => absurd h hs, fun h => absurd h.1 hs, fun h => absurd h.1 hs, fun h => absurd h.1 hs, fun h => absurd h.1.1 hs, fun h => absurd h.1.1 hs, fun h => absurd h.1.1 hs, ?_⟩
  show vT (decide (SameHist a b) && _ && _ && _) = _
  rw [decide_eq_false hs]; rfl
theorem keptE (a : Hist) {n' : ByteArray} {q' : Int} {r' : List Ref} {s' : List Row} {c' : List Node} {l1 l2 l3 : Nat} {p1 p2 p3 : Bool} (m1 : l1 = 2 ∨ r' = []) (m2 : l2 = 50 ∨ s' = []) (m3 : l3 = 6 ∨ c' = []) :
  keptF [copyP a, .agg [vS n', vI q', .sl l1 (r'.map refP) p1, .sl l2 (s'.map rowP) p2, .sl l3 (c'.map nodeP) p3]] = some ([lenH a, lenH ⟨n', q', r', s', c'⟩], vT (decide (SameHist a ⟨n', q', r', s', c'⟩))) := by
 simp only [keptF, copyD_P, histD_of _ _ _ m1 m2 m3]
end Go.Ve.H
end
section
set_option maxRecDepth 10000
set_option maxHeartbeats 20000000
namespace Go.Ve.H
open Go Go.Proofs Go.Ve
def lawF : List PV → Option (List Prop × PV) := on1h fun h => ([SzL h, smallH h], vT true)
def cnTF : List PV → Option (List Prop × PV) := fun a => cnF (unsltL a)
def txTF : List PV → Option (List Prop × PV) := fun a => txHF (unsltL a)
def ckTF : List PV → Option (List Prop × PV) := fun a => ckhF (unsltL a)
theorem cnT_ok : Sound Tryz.prog G0 6 (conT (CB.fn cnTF).toCon) := Sound.unslt (F := cnF) pCn_ok
theorem txT_ok : Sound Tryz.prog G0 8 (conT (CB.fn txTF).toCon) := Sound.unslt (F := txHF) pTxt_ok
theorem ckT_ok : Sound Tryz.prog G0 11 (conT (CB.fn ckTF).toCon) := Sound.unslt (F := ckhF) pHCheck_ok
theorem cnTE (a : Hist) (x y z : List PV) : cnTF [.agg [vS a.name, vI a.quant, .slt 2 (a.refs.map refP) x, .slt 50 (a.rows.map rowP) y, .slt 6 (a.cond.map nodeP) z]] = some ([szH a], .tuple (cnB a)) :=
 @cnE a.name a.quant a.refs a.rows a.cond 2 50 6 false false false (.inl rfl) (.inl rfl) (.inl rfl)
theorem txTE (a : Hist) (x y z : List PV) : txTF [.agg [vS a.name, vI a.quant, .slt 2 (a.refs.map refP) x, .slt 50 (a.rows.map rowP) y, .slt 6 (a.cond.map nodeP) z]] = some ([SzL a], .tuple (txB a)) :=
 @txHE a.name a.quant a.refs a.rows a.cond 2 50 6 false false false (.inl rfl) (.inl rfl) (.inl rfl)
theorem ckTE (a : Hist) (x y z : List PV) : ckTF [.agg [vS a.name, vI a.quant, .slt 2 (a.refs.map refP) x, .slt 50 (a.rows.map rowP) y, .slt 6 (a.cond.map nodeP) z]] = some ([szH a], vI (checkH a)) :=
 @ckhE a.name a.quant a.refs a.rows a.cond 2 50 6 false false false (.inl rfl) (.inl rfl) (.inl rfl)
theorem pTxtE : True := trivial
theorem rTxtE {n : ByteArray} {q : Int} {r : List Ref} {s : List Row} {c : List Node} {j1 j2 j3 : Nat} {o1 o2 o3 : Bool} (h1 : j1 = 2 ∨ r = []) (h2 : j2 = 50 ∨ s = []) (h3 : j3 = 6 ∨ c = []) :
  rTxtF [.agg [vS n, vI q, .sl j1 (r.map refP) o1, .sl j2 (s.map rowP) o2, .sl j3 (c.map nodeP) o3]] = some ([SzL ⟨n, q, r, s, c⟩], .tuple (txB ⟨n, q, r, s, c⟩)) := txHE h1 h2 h3
theorem same_t {a b : Hist} (h : SameHist a b) : decide (SameHist a b) = true := decide_eq_true h
theorem keptS (a : Hist) {l1 l2 l3 : Nat} {p1 p2 p3 : Bool} (m1 : l1 = 2 ∨ a.refs = []) (m2 : l2 = 50 ∨ a.rows = []) (m3 : l3 = 6 ∨ a.cond = []) :
  keptF [.agg [vS a.name, vI a.quant, .slt 2 (a.refs.map refP) [refP endRef], .slt 50 (a.rows.map rowP) [rowP endRow], .slt 6 (a.cond.map nodeP) [nodeP endNode]], .agg [vS a.name, vI a.quant, .sl l1 (a.refs.map refP) p1, .sl l2 (a.rows.map rowP) p2, .sl l3 (a.cond.map nodeP) p3]] = some ([lenH a, lenH a], vT true) :=
 (keptE a m1 m2 m3).trans (by rw [same_t (a := a) ⟨rfl, rfl, rfl, rfl, rfl⟩])
def D3 : FuncId → Option CB
 | 4 => some (.fn fewF)
 | 5 => some (.fn copiedF)
 | 6 => some (.fn cnTF)
 | 7 => some (.fn rCnF)
 | 8 => some (.fn txTF)
 | 9 => some (.fn rTxtF)
 | 10 => some (.fn lnumF)
 | 11 => some (.fn ckTF)
 | 12 => some (.fn rHCheckF)
 | 13 => some (.fn keptF)
 | _ => none
theorem D3_ok : AllB E0 D3 := fun g c h => by
 unfold D3 at h
 split at h <;> simp at h <;> subst h
 ·exact few_ok
 ·exact copied_ok
 ·exact cnT_ok
 ·exact rCn_ok
 ·exact txT_ok
 ·exact rTxt_ok
 ·exact lnum_ok
 ·exact ckT_ok
 ·exact rHCheck_ok
 ·exact kept_ok
theorem law_ok : Sound Tryz.prog G0 3 (conT (CB.fn lawF).toCon) := by
 refine fn_of D3_ok mixed true Tryz.func3 (by decide) rfl _ ?_
 intro args ps r hq hp
 obtain ⟨p, a, rfl, ha, hx⟩ := on1h_inv hq
 obtain ⟨rfl, rfl⟩ := Prod.mk.inj hx
 have hL := hp (SzL a) (by simp)
 have ya := hp (smallH a) (by simp)
 have za := hL.sz
 refine ⟨by simp [norefL, nr_hist ha], ?_⟩
 simp only [awpBFn, Tryz.ntmps3, List.length_cons, List.length_nil, Nat.reduceAdd, Nat.reduceSub, List.replicate_succ, List.replicate_zero, List.cons_append, List.nil_append, List.map_cons, List.map_nil]
 obtain ⟨j1, o1, j2, o2, j3, o3, rfl, k1, k2, k3⟩ := ha
 have cE1 := fun x y z => copiedE (n := a.name) (q := a.quant) (o1 := x) (o2 := y) (o3 := z) k1 k2 k3
 have e1 := fun x y z => rCnE (n := a.name) (q := a.quant) (o1 := x) (o2 := y) (o3 := z) k1 k2 k3
 have e2 := fun x y z => rTxtE (n := a.name) (q := a.quant) (o1 := x) (o2 := y) (o3 := z) k1 k2 k3
 have e3 := fun x y z => rHCheckE (n := a.name) (q := a.quant) (o1 := x) (o2 := y) (o3 := z) k1 k2 k3
 have kE1 := fun x y z => keptS a (p1 := x) (p2 := y) (p3 := z) k1 k2 k3
 have t1 := cnTE a [refP endRef] [rowP endRow] [nodeP endNode]
 have t2 := txTE a [refP endRef] [rowP endRow] [nodeP endNode]
 have t3 := ckTE a [refP endRef] [rowP endRow] [nodeP endNode]
 have wa : lenH a := ⟨by have := ya.1; omega, by have := ya.2.1; omega, by have := ya.2.2; omega⟩
 by_cases hf : (a.rows.length : Int) ≤ 2000
 case neg =>
  simp -implicitDefEqProofs (maxSteps := 2000000) only [R0, R1, R2, R3, R4, R5, R6, R7, R8, R9, R10, R11, R12, R13, R14, R15, R16, PV.strip, stripL, PV.noref, ri, feedL, feeds, Nat.reduceBEq, Array.toList, ↓reduceIte, forall_const, implies_true, Nat.reduceEqDiff, reduceCtorEq, alP, bxP, bsP, ifP, quiet, riD, bs_l, PV.isRef, plainCell, norefL, PV.scalar, scalarL, PV.cells, PV.solid, PV.one, PV.free, freeL, fillP, splice, Nat.reduceAdd, Nat.reduceMul, Nat.reduceSub, Nat.reduceLeDiff, Nat.reduceLT, Int.reduceToNat, Int.reduceEq, Int.reduceLT, Int.reduceLE, Int.reduceNeg, E0_vc, vaN, PV.avoid, avoidL, Nat.reduceGT, Tryz.results3, fa27_3, ag23, sz23, zd23, Tryz.underlying23, ag27, sz27, zp27, D3, fewE, copiedE, pCnE, rCnE, pTxtE, rTxtE, lnumE, pHCheckE, rHCheckE, keptE, fewE, hf, RB0]
 have hc : ∃ x y z, cnB a = [vI x, vI y, vI z] := by unfold cnB; split <;> exact ⟨_, _, _, rfl⟩
 have ht : ∃ x y, txB a = [vS x, vI y] := by unfold txB; split; split; all_goals exact ⟨_, _, rfl⟩
 obtain ⟨x, y, z, hc⟩ := hc
 obtain ⟨u, v, ht⟩ := ht
 simp -implicitDefEqProofs (maxSteps := 2000000) only [R0, R1, R2, R3, R4, R5, R6, R7, R8, R9, R10, R11, R12, R13, R14, R15, R16, PV.strip, stripL, PV.noref, ri, feedL, feeds, Nat.reduceBEq, Array.toList, ↓reduceIte, forall_const, implies_true, Nat.reduceEqDiff, reduceCtorEq, alP, bxP, bsP, ifP, quiet, riD, bs_l, PV.isRef, plainCell, norefL, PV.scalar, scalarL, PV.cells, PV.solid, PV.one, PV.free, freeL, fillP, splice, Nat.reduceAdd, Nat.reduceMul, Nat.reduceSub, Nat.reduceLeDiff, Nat.reduceLT, Int.reduceToNat, Int.reduceEq, Int.reduceLT, Int.reduceLE, Int.reduceNeg, E0_vc, vaN, PV.avoid, avoidL, Nat.reduceGT, Tryz.results3, fa27_3, ag23, sz23, zd23, Tryz.underlying23, ag27, sz27, zp27, D3, fewE, copiedE, pCnE, rCnE, pTxtE, rTxtE, lnumE, pHCheckE, rHCheckE, keptE, fewE, hf, cE1, copyP, e1, e2, e3, kE1, t1, t2, t3, hc, ht, lnumE, List.length_map, nr_map nr_ref, nr_map nr_row, nr_map nr_node, PV.noref, norefL, decide_true, Bool.not_true, ne_eq, not_true_eq_false, decide_false, RB0]
 exact ⟨ya, za, za, hL, hL, .inl (by decide), za, za, wa⟩
end Go.Ve.H
end
section
set_option maxRecDepth 10000
set_option maxHeartbeats 8000000
namespace Go.Ve.H
open Go Go.Proofs Go.Ve Go.WideShapes Go.Deep
section
variable {X : Type} {enc : TypeId × Value → X} {W : World}
noncomputable abbrev trd (enc : TypeId × Value → X) (W : World) (n : Nat) (t : TypeId) (cs : List Value) : Option (DataW X × List MemPlace) := DataW.trod enc Tryz.prog W 0 (fun _ => true) true n t cs
noncomputable abbrev blk (d : DataW X) : Nat := Go.Proofs.YtdfajmeabnmhjaaGreatDoor.Rows.uptoBulk d
noncomputable abbrev blkA (d : List (DataW X)) : Nat := Go.Proofs.YtdfajmeabnmhjaaGreatDoor.Rows.uptoBulkAll d
theorem one_le (d : DataW X) : 1 ≤ blk d := by
 cases d with
 | lit l => cases l <;> simp [blk, Go.Proofs.YtdfajmeabnmhjaaGreatDoor.Rows.uptoBulk]
 | _ => simp [blk, Go.Proofs.YtdfajmeabnmhjaaGreatDoor.Rows.uptoBulk]
theorem part_le {d : DataW X} {l : List (DataW X)} (h : d ∈ l) : blk d ≤ blkA l := by
 induction l with
 | nil => cases h
 | cons x r ih =>
  simp only [blk, blkA, Go.Proofs.YtdfajmeabnmhjaaGreatDoor.Rows.uptoBulkAll] at ih ⊢
  cases List.mem_cons.1 h with
  | inl e => subst e; omega
  | inr e => have := ih e; omega
theorem length_le (l : List (DataW X)) : l.length ≤ blkA l := by
 induction l with
 | nil => simp
 | cons x r ih => have := one_le x; simp only [blk, blkA, Go.Proofs.YtdfajmeabnmhjaaGreatDoor.Rows.uptoBulkAll, List.length_cons] at ih this ⊢; omega
theorem agg_le (l : List (DataW X)) : blkA l ≤ blk (.agg l) := by simp only [blk, blkA, Go.Proofs.YtdfajmeabnmhjaaGreatDoor.Rows.uptoBulk]; omega
theorem sli_le (l m : List (DataW X)) : blkA l ≤ blk (.slice l m) := by simp only [blk, blkA, Go.Proofs.YtdfajmeabnmhjaaGreatDoor.Rows.uptoBulk]; omega
theorem str_eq (s : ByteArray) : s.size ≤ blk (.lit (.string s.data.toList) : DataW X) := by
 simp only [blk, Go.Proofs.YtdfajmeabnmhjaaGreatDoor.Rows.uptoBulk, Array.length_toList]
 exact Nat.le_succ_of_le (Nat.le_refl _)
theorem rd_int {t : TypeId} {n : Nat} {cs : List Value} {y : DataW X × List MemPlace} (ht : Tryz.prog.underlying t = some (.int .i64)) (h : trd enc W n t cs = some y) : ∃ z, cs = [.int .i64 z] ∧ inI64 z := by
 obtain ⟨z, h1, _, h2⟩ := DataW.trod_int ht h
 refine ⟨z, h1, ?_⟩
 simp only [Lit.wf, Bool.and_eq_true, decide_eq_true_eq] at h2
 exact h2
theorem rd_str {t : TypeId} {n : Nat} {cs : List Value} {y : DataW X × List MemPlace} (ht : Tryz.prog.underlying t = some .string) (h : trd enc W n t cs = some y) : ∃ s, cs = [.string s] ∧ s.size ≤ blk y.1 := by
 obtain ⟨s, h1, h2, _⟩ := DataW.trod_string ht h
 exact ⟨s, h1, by rw [h2]; exact str_eq s⟩
theorem rd_struct {t : TypeId} {fs : Array Field} {n : Nat} {cs : List Value} {x : DataW X × List MemPlace} (ht : Tryz.prog.underlying t = some (.struct fs)) (h : trd enc W n t cs = some x) :
  cs.length = Tryz.prog.cellsOf t ∧ ∃ m, ∀ (i ty off : Nat), (fs[i]?.map fun f => (f.type, f.offset)) = some (ty, off) → ∃ y, trd enc W m ty ((cs.drop off).take (Tryz.prog.cellsOf ty)) = some y ∧ blk y.1 ≤ blk x.1 := by
 obtain ⟨xs, m, _, h1, h2, h3, h4⟩ := DataW.trod_struct ht h
 refine ⟨h2, m, fun i ty off he => ?_⟩
 obtain ⟨f, hf, he⟩ := Option.map_eq_some_iff.1 he
 obtain ⟨rfl, rfl⟩ := Prod.mk.inj he
 have hi : i < xs.length := by rw [h3]; exact (Array.getElem?_eq_some_iff.1 hf).1
 have h5 := h4 i f hf
 rw [List.getElem?_eq_getElem hi] at h5
 refine ⟨xs[i], h5, ?_⟩
 rw [h1]
 refine Nat.le_trans (part_le ?_) (agg_le (xs.map (·.1)))
 exact List.mem_map.2 ⟨xs[i], List.getElem_mem hi, rfl⟩
theorem co1 : Tryz.prog.cellsOf 2 = 1 ∧ Tryz.prog.cellsOf 3 = 1 ∧ Tryz.prog.cellsOf 9 = 1 := ⟨by kernel_rfl, by kernel_rfl, by kernel_rfl⟩
theorem co22 : Tryz.prog.cellsOf 22 = 1 ∧ Tryz.prog.cellsOf 23 = 1 ∧ Tryz.prog.cellsOf 25 = 1 := ⟨by kernel_rfl, by kernel_rfl, by kernel_rfl⟩
theorem co39 : Tryz.prog.cellsOf 45 = 2 := by kernel_rfl
theorem co46 : Tryz.prog.cellsOf 52 = 6 := by kernel_rfl
theorem co44 : Tryz.prog.cellsOf 50 = 50 := by kernel_rfl
theorem co42 : Tryz.prog.cellsOf 48 = 49 := by kernel_rfl
theorem co40 : Tryz.prog.cellsOf 46 = 48 := by kernel_rfl
theorem co27 : Tryz.prog.cellsOf 27 = 5 := by kernel_rfl
theorem rd_ref {n : Nat} {cs : List Value} {y : DataW X × List MemPlace} (h : trd enc W n 45 cs = some y) : ∃ r : Ref, cs = [.int .i64 r.t, .string r.n] ∧ r.n.size ≤ blk y.1 ∧ inI64 r.t := by
 obtain ⟨hl, m, hf⟩ := rd_struct Tryz.underlying45 h
 rw [co39] at hl
 match cs, hl with
 | [a, b], _ =>
  obtain ⟨y0, g0', _⟩ := hf 0 3 0 rfl
  obtain ⟨y1, g1', b1⟩ := hf 1 9 1 rfl
  simp only [co1.2.1, co1.2.2, List.drop_zero, List.take_succ_cons, List.take_zero, List.drop_succ_cons] at g0' g1'
  obtain ⟨z, e0, i0⟩ := rd_int Tryz.underlying3 g0'
  obtain ⟨s, e1, e2⟩ := rd_str Tryz.underlying9 g1'
  simp only [List.cons.injEq, and_true] at e0 e1
  exact ⟨⟨z, s⟩, by rw [e0, e1], Nat.le_trans e2 b1, i0⟩
theorem rd_node {n : Nat} {cs : List Value} {y : DataW X × List MemPlace} (h : trd enc W n 52 cs = some y) : ∃ x : Node, cs = [.int .i64 x.op, .int .i64 x.a, .int .i64 x.b, .int .i64 x.ref.t, .string x.ref.n, .int .i64 x.val] ∧ x.ref.n.size ≤ blk y.1 ∧ inI64 x.ref.t ∧ inI64 x.val := by
 obtain ⟨hl, m, hf⟩ := rd_struct Tryz.underlying52 h
 rw [co46] at hl
 match cs, hl with
 | [a, b, c, d, e, f], _ =>
  obtain ⟨y0, g0', _⟩ := hf 0 3 0 rfl
  obtain ⟨y1, g1', _⟩ := hf 1 3 1 rfl
  obtain ⟨y2, g2', _⟩ := hf 2 3 2 rfl
  obtain ⟨y3, g3', b3⟩ := hf 3 45 3 rfl
  obtain ⟨y4, g4', _⟩ := hf 4 2 5 rfl
  simp only [co1.1, co1.2.1, co39, List.drop_zero, List.take_succ_cons, List.take_zero, List.drop_succ_cons] at g0' g1' g2' g3' g4'
  obtain ⟨z0, e0, _⟩ := rd_int Tryz.underlying3 g0'
  obtain ⟨z1, e1, _⟩ := rd_int Tryz.underlying3 g1'
  obtain ⟨z2, e2, _⟩ := rd_int Tryz.underlying3 g2'
  obtain ⟨r, e3, e3', i3⟩ := rd_ref g3'
  obtain ⟨z4, e4, i4⟩ := rd_int Tryz.underlying2 g4'
  simp only [List.cons.injEq, and_true] at e0 e1 e2 e3 e4
  exact ⟨⟨z0, z1, z2, r, z4⟩, by rw [e0, e1, e2, e3.1, e3.2, e4], Nat.le_trans e3' b3, i3, i4⟩
theorem ints_of : ∀ {k : Nat} {cs : List Value}, cs.length = k → (∀ i, i < k → ∃ z, (cs.drop i).take 1 = [.int .i64 z] ∧ inI64 z) → ∃ v : List Int, v.length = k ∧ cs = v.map (.int .i64 ·) ∧ ∀ z ∈ v, inI64 z
 | 0, cs, hl, _ => ⟨[], rfl, List.length_eq_zero_iff.1 hl, fun z hz => by cases hz⟩
 | k + 1, c :: cs, hl, h => by
  obtain ⟨v, h1, h2, h3⟩ := ints_of (k := k) (cs := cs) (by simpa using hl) fun i hi => by
   have := h (i + 1) (by omega)
   simpa using this
  obtain ⟨z, hz, hi⟩ := h 0 (by omega)
  simp only [List.drop_zero, List.take_succ_cons, List.take_zero, List.cons.injEq, and_true] at hz
  exact ⟨z :: v, by simp [h1], by rw [hz, h2]; rfl, fun y hy => by
   rcases List.mem_cons.1 hy with rfl | hy
   ·exact hi
   ·exact h3 y hy⟩
theorem rd_row {n : Nat} {cs : List Value} {y : DataW X × List MemPlace} (h : trd enc W n 50 cs = some y) : ∃ r : Row, cs = .int .i64 r.c :: .int .i64 r.f.n :: r.f.v.map (.int .i64 ·) ∧ ∀ z ∈ r.f.v, inI64 z := by
 obtain ⟨hl, m, hf⟩ := rd_struct Tryz.underlying50 h
 rw [co44] at hl
 obtain ⟨y0, g0', _⟩ := hf 0 2 0 rfl
 obtain ⟨y1, g1', _⟩ := hf 1 48 1 rfl
 simp only [co1.1, co42] at g0' g1'
 obtain ⟨hl2, m2, hf2⟩ := rd_struct Tryz.underlying48 g1'
 obtain ⟨y2, g2', _⟩ := hf2 0 3 0 rfl
 obtain ⟨y3, g3', _⟩ := hf2 1 46 1 rfl
 simp only [co1.2.1, co40] at g2' g3'
 obtain ⟨xs, m3, _, _, h3, h4, h5⟩ := DataW.trod_array Tryz.underlying46 g3'
 obtain ⟨c, e0, _⟩ := rd_int Tryz.underlying2 g0'
 obtain ⟨k, e2, _⟩ := rd_int Tryz.underlying3 g2'
 match cs, hl with
 | a :: b :: cs, hl =>
  simp only [List.drop_zero, List.take_succ_cons, List.take_zero, List.drop_succ_cons, List.cons.injEq, and_true] at e0 e2
  have hcl : cs.length = 48 := by simpa using hl
  have ht : List.take 48 (List.drop 1 (List.take 49 (List.drop 1 (a :: b :: cs)))) = cs := by
   simp only [List.drop_succ_cons, List.drop_zero, List.take_succ_cons]
   rw [List.take_of_length_le (by rw [List.length_take]; omega), List.take_of_length_le (by omega)]
  obtain ⟨v, v1, v2, v3⟩ := ints_of hcl fun i hi => by
   have := h5 i hi
   simp only [co1.1, Nat.mul_one] at this
   rw [ht, List.getElem?_eq_getElem (by omega)] at this
   exact rd_int Tryz.underlying2 this
  exact ⟨⟨c, ⟨k, v, v1⟩⟩, by rw [e0, e2, v2], v3⟩
theorem all_of {b o : Nat} {v : Value} (h : W.cell? ⟨b, o, none⟩ = some v) (h1 : v.oneCell' = true) : Fz.all W b o = some v := by
 simp [Fz.all, h, h1]
theorem repL_app {F : Fz} {R : List Nat} : ∀ {a b : List PV} {u v : List Value}, RepL F R a u → RepL F R b v → RepL F R (a ++ b) (u ++ v)
 | _, _, _, _, .nil, h => h
 | _, _, _, _, .cons h t, h' => .cons h (repL_app t h')
theorem rd_slice {α : Type} [Inhabited α] (e : α → PV) (k : Nat) (S : α → Nat) (Q : α → Prop) (hk : 0 < k) (hc : ∀ a, (e a).cells.length = k) {t el : TypeId} (ht : Tryz.prog.underlying t = some (.slice el)) (hel : Tryz.prog.cellsOf el = k)
  (hr : ∀ n cs (y : DataW X × List MemPlace), trd enc W n el cs = some y → ∃ a, RepL (Fz.all W) [] (e a).cells cs ∧ (∀ v ∈ cs, v.oneCell' = true) ∧ S a ≤ blk y.1 ∧ Q a) {n : Nat} {v : Value} {x : DataW X × List MemPlace}
  (h : trd enc W n t [v] = some x) (hs : ∀ a len cap, v = .slice (some a) len cap → a.spot = none) :
  ∃ l : List α, Rep (Fz.all W) [] (.sl k (l.map e) false) v ∧ v.oneCell' = true ∧ l.length ≤ blk x.1 ∧ ∀ a ∈ l, S a ≤ blk x.1 ∧ Q a := by
 rcases open_slice ht h with ⟨h1, h2⟩ | ⟨a, len, cap, m, n', D, Pl, h1, _, hlc, _, hm, hx, hel'⟩
 ·simp only [List.cons.injEq, and_true] at h1
  subst h1
  exact ⟨[], .slnil, rfl, Nat.zero_le _, fun a ha => by cases ha⟩
 ·simp only [List.cons.injEq, and_true] at h1
  subst h1
  have hsp := hs a len cap rfl
  rw [if_pos rfl] at hm
  have hall : ∀ i, i < len → ∃ p : α × List Value, W.cells? 0 (a.add (i * k)) k = some p.2 ∧ RepL (Fz.all W) [] (e p.1).cells p.2 ∧ (∀ v ∈ p.2, v.oneCell' = true) ∧ S p.1 ≤ blk (D i) ∧ Q p.1 := fun i hi => by
   obtain ⟨cs', c1, c2⟩ := hel' i (by omega)
   rw [hel] at c1
   obtain ⟨z, z1, z2, z3⟩ := hr n' cs' _ c2
   exact ⟨⟨z, cs'⟩, c1, z1, z2, z3⟩
  obtain ⟨V, hV⟩ := choose_lt hall
  have hxb : ∀ i, i < len → blk (D i) ≤ blk x.1 := fun i hi => by
   rw [hx]
   refine Nat.le_trans (part_le ?_) (sli_le _ _)
   exact List.mem_map.2 ⟨i, List.mem_range.2 hi, rfl⟩
  have key : ∀ q, q ≤ len → RepL (Fz.all W) [] (((List.range q).map fun i => e (V i).1).flatMap PV.cells) ((List.range q).flatMap fun i => (V i).2) ∧ ((List.range q).flatMap fun i => (V i).2).length = q * k ∧
    ∀ (j : Nat) u, ((List.range q).flatMap fun i => (V i).2)[j]? = some u → Fz.all W a.block (a.off + j) = some u := by
   intro q
   induction q with
   | zero => intro _; exact ⟨by simp; exact .nil, by simp, fun j u hj => by simp at hj⟩
   | succ q ih =>
    intro hq
    obtain ⟨i1', i2, i3⟩ := ih (by omega)
    obtain ⟨c1, c2, c3, _⟩ := hV q (by omega)
    obtain ⟨_, d1, d2⟩ := World.cells?_some c1
    rw [List.range_succ, List.map_append, List.flatMap_append, List.flatMap_append]
    simp only [List.map_cons, List.map_nil, List.flatMap_cons, List.flatMap_nil, List.append_nil]
    refine ⟨repL_app i1' c2, by rw [List.length_append, i2, d1, Nat.succ_mul], fun j u hj => ?_⟩
    by_cases hjl : j < q * k
    ·rw [List.getElem?_append_left (by omega)] at hj
     exact i3 j u hj
    ·rw [List.getElem?_append_right (by omega), i2] at hj
     have hjk : j - q * k < k := by
      have := (List.getElem?_eq_some_iff.1 hj).1
      omega
     have hd := d2 (j - q * k) hjk
     rw [hj] at hd
     have ea : (a.add (q * k)).add (j - q * k) = ⟨a.block, a.off + j, none⟩ := by
      obtain ⟨ab, ao, asp⟩ := a
      simp only at hsp
      subst hsp
      simp only [Addr.add]
      have : ao + q * k + (j - q * k) = ao + j := by omega
      split <;> split <;> simp_all
     rw [ea] at hd
     exact all_of hd (c3 u (List.mem_of_getElem? hj))
  obtain ⟨k1, k2, k3⟩ := key len (Nat.le_refl _)
  refine ⟨(List.range len).map fun i => (V i).1, ?_, rfl, ?_, ?_⟩
  ·obtain ⟨ab, ao, asp⟩ := a
   simp only at hsp
   subst hsp
   refine .sl ((List.range len).flatMap fun i => (V i).2) hk (by simp) hlc ?_ k3 ?_
   ·intro y hy
    simp only [List.map_map, List.mem_map] at hy
    obtain ⟨i, _, rfl⟩ := hy
    exact hc _
   ·rw [List.map_map]; exact k1
  ·rw [List.length_map, List.length_range]
   have := length_le ((List.range len).map D)
   rw [List.length_map, List.length_range] at this
   rw [hx]
   exact Nat.le_trans this (sli_le _ _)
  ·intro z hz
   obtain ⟨i, hi, rfl⟩ := List.mem_map.1 hz
   have hi := List.mem_range.1 hi
   exact ⟨Nat.le_trans (hV i hi).2.2.2.1 (hxb i hi), (hV i hi).2.2.2.2⟩
instance : Inhabited Ref := ⟨noRef⟩
instance : Inhabited Node := ⟨⟨0, 0, 0, noRef, 0⟩⟩
instance : Inhabited Row := ⟨noRow⟩
theorem rep_ints {F : Fz} {R : List Nat} : ∀ l : List Int, RepL F R (l.map vI) (l.map (.int .i64 ·))
 | [] => .nil
 | x :: l => .cons (.val rfl) (rep_ints l)
def hist5 (h : Hist) : PV := .agg [vS h.name, vI h.quant, .sl 2 (h.refs.map refP) false, .sl 50 (h.rows.map rowP) false, .sl 6 (h.cond.map nodeP) false]
theorem hist5_D (h : Hist) : histD (hist5 h) = some h := histD_of _ _ _ (.inl rfl) (.inl rfl) (.inl rfl)
theorem ct27 : ∃ ts, Tryz.prog.cellTypes Tryz.prog.depth 27 = some ts ∧ ts = [9, 3, 22, 23, 25] := ⟨_, by kernel_rfl, rfl⟩
theorem spot_of {w : World} {b : Nat} {t e : TypeId} (ht : Tryz.prog.underlying t = some (.slice e)) {v : Value} (h : Cell.okWide Tryz.prog w .any b t v) : ∀ a len cap, v = .slice (some a) len cap → a.spot = none := by
 rintro a len cap rfl
 simp only [Cell.okWide, ht, Cell.ok] at h
 exact h.2.2.2.1
theorem rd_hist {b : Nat} {v : Value} {d : DataW X} {ps : List MemPlace} (hv : Value.okWide Tryz.prog W .any b 27 v) (h : DataW.Trod enc Tryz.prog W 0 (fun _ => true) true 27 v d ps) :
  ∃ x : Hist, Rep (Fz.all W) [] (hist5 x) v ∧ x.name.size ≤ blk d ∧ (x.refs.length ≤ blk d ∧ ∀ r ∈ x.refs, r.n.size ≤ blk d) ∧ x.rows.length ≤ blk d ∧ (x.cond.length ≤ blk d ∧ ∀ r ∈ x.cond, r.ref.n.size ≤ blk d ∧ inI64 r.ref.t ∧ inI64 r.val) ∧ ∀ r ∈ x.rows, ∀ z ∈ r.f.v, inI64 z := by
 obtain ⟨fuel, h⟩ := h
 simp only [Value.okWide, Tryz.underlying27] at hv
 obtain ⟨cs, rfl, hcs, ts, hts, _, hok⟩ := hv
 obtain ⟨ts', e1, e2⟩ := ct27
 rw [e1] at hts
 injection hts with hts
 rw [e2] at hts
 subst hts
 rw [co27] at hcs
 obtain ⟨hl, m, hf⟩ := rd_struct Tryz.underlying27 h
 obtain ⟨l⟩ := cs
 match l, hcs with
 | [c0, c1, c2, c3, c4], _ =>
  obtain ⟨y0, f0', b0⟩ := hf 0 9 0 rfl
  obtain ⟨y1, f1', _⟩ := hf 1 3 1 rfl
  obtain ⟨y2, f2', b2⟩ := hf 2 22 2 rfl
  obtain ⟨y3, f3', b3⟩ := hf 3 23 3 rfl
  obtain ⟨y4, f4', b4⟩ := hf 4 25 4 rfl
  simp only [Value.cells, co1.2.1, co1.2.2, co22.1, co22.2.1, co22.2.2, List.drop_zero, List.take_succ_cons, List.take_zero, List.drop_succ_cons] at f0' f1' f2' f3' f4'
  obtain ⟨s, k0, s0'⟩ := rd_str Tryz.underlying9 f0'
  obtain ⟨z, k1, _⟩ := rd_int Tryz.underlying3 f1'
  simp only [List.cons.injEq, and_true] at k0 k1
  subst k0; subst k1
  have o2 := hok 2 c2 rfl
  have o3 := hok 3 c3 rfl
  have o4 := hok 4 c4 rfl
  simp only [List.length_cons, List.length_nil, Nat.reduceAdd, Nat.reduceMod, List.getElem?_cons_succ, List.getElem?_cons_zero, Option.some.injEq, exists_eq_left'] at o2 o3 o4
  obtain ⟨lr, r1, r2, r3, r4⟩ := rd_slice refP 2 (fun r => r.n.size) (fun r => inI64 r.t) (by decide) (fun _ => rfl) Tryz.underlying22 co39 (fun n cs y hy => by
   obtain ⟨r, rfl, hr⟩ := rd_ref hy
   exact ⟨r, .cons (.val rfl) (.cons (.val rfl) .nil), fun v hv => by simp only [List.mem_cons, List.not_mem_nil, or_false] at hv; rcases hv with rfl | rfl <;> rfl, hr⟩) f2' (spot_of Tryz.underlying22 o2)
  obtain ⟨lw, w1, w2, w3, w4⟩ := rd_slice rowP 50 (fun _ => 0) (fun r => ∀ z ∈ r.f.v, inI64 z) (by decide) (fun r => by simp [rowP, PV.cells, r.f.hl]) Tryz.underlying23 co44 (fun n cs y hy => by
   obtain ⟨r, rfl, hq⟩ := rd_row hy
   exact ⟨r, .cons (.val rfl) (.cons (.val rfl) (rep_ints _)), fun v hv => by
    simp only [List.mem_cons, List.mem_map] at hv
    rcases hv with rfl | rfl | ⟨_, _, rfl⟩ <;> rfl, Nat.zero_le _, hq⟩) f3' (spot_of Tryz.underlying23 o3)
  obtain ⟨lc, n1, n2, n3, n4⟩ := rd_slice nodeP 6 (fun r => r.ref.n.size) (fun r => inI64 r.ref.t ∧ inI64 r.val) (by decide) (fun _ => rfl) Tryz.underlying25 co46 (fun n cs y hy => by
   obtain ⟨r, rfl, hr⟩ := rd_node hy
   exact ⟨r, .cons (.val rfl) (.cons (.val rfl) (.cons (.val rfl) (.cons (.val rfl) (.cons (.val rfl) (.cons (.val rfl) .nil))))), fun v hv => by simp only [List.mem_cons, List.not_mem_nil, or_false] at hv; rcases hv with rfl | rfl | rfl | rfl | rfl | rfl <;> rfl, hr⟩) f4' (spot_of Tryz.underlying25 o4)
  refine ⟨⟨s, z, lr, lw, lc⟩, ?_, Nat.le_trans s0' b0, ⟨Nat.le_trans r3 b2, fun r hr => Nat.le_trans (r4 r hr).1 b2⟩, Nat.le_trans w3 b3, ⟨Nat.le_trans n3 b4, fun r hr => ⟨Nat.le_trans (n4 r hr).1 b4, (n4 r hr).2⟩⟩, fun r hr => (w4 r hr).2⟩
  refine .agg ?_ (.cons (.val rfl) (.cons (.val rfl) (.cons r1 (.cons w1 (.cons n1 .nil)))))
  intro v hv
  simp only [List.mem_cons, List.not_mem_nil, or_false] at hv
  rcases hv with rfl | rfl | rfl | rfl | rfl
  ·rfl
  ·rfl
  ·exact r2
  ·exact w2
  ·exact n2
end
end Go.Ve.H
end
