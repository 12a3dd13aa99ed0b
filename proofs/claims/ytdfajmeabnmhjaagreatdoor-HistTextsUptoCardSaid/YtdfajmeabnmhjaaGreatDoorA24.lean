/- weirlaw30.HistTexts: part of the proof (a value semantics for the model's code, and the functions told by it). -/
import Derived.Test.YtdfajmeabnmhjaaGreatDoorA23
import Derived.Lib.LaidTab
import Derived.Lib.AppendIntMem
set_option linter.unusedSimpArgs false
set_option linter.unusedVariables false
set_option linter.deprecated false
set_option linter.unusedSectionVars false
set_option linter.defProp false
section
set_option maxRecDepth 10000
set_option maxHeartbeats 4000000
namespace Go.Ve.H
open Go Go.Proofs Go.Ve
def ckF := onc fun c => ([szC c], vI (checkC c))
def pCCheckF := ckF
def rCCheckF := ckF
theorem pCCheckE {j : Nat} {o : Bool} {c : List Node} (hj : j = 6 ∨ c = []) : pCCheckF [.sl j (c.map nodeP) o] = some ([szC c], vI (checkC c)) := onc_P hj
theorem rCCheckE {j : Nat} {o : Bool} {c : List Node} (hj : j = 6 ∨ c = []) : rCCheckF [.sl j (c.map nodeP) o] = some ([szC c], vI (checkC c)) := onc_P hj
def D50 : FuncId → Option CB
 | 72 => some (.fn pMakesF)
 | 73 => some (.fn pDeepGF)
 | _ => none
theorem D50_ok : AllB E0 D50 := fun g c h => by
 unfold D50 at h
 split at h <;> simp at h <;> subst h
 ·exact pMakes_ok
 ·exact pDeepG_ok
theorem makesC_ne {c : List Node} (h : makesC c = true) : 1 ≤ (c.length : Int) ∧ (c.length : Int) ≤ 1024 := by
 unfold makesC at h
 simp only [Bool.and_eq_true, decide_eq_true_eq] at h
 exact h.1
theorem checkC_no {c : List Node} (h : makesC c = false) : checkC c = 60 := by rw [checkC, h]; rfl
theorem checkC_yes {c : List Node} (h : makesC c = true) : checkC c = if 64 < depth c ((c.length : Int) - 1) then 2 else 0 := by rw [checkC, if_pos h]
theorem pCCheck_ok : Sound Tryz.prog G0 50 (conT (CB.fn pCCheckF).toCon) := by
 refine fn_of D50_ok mixed true Tryz.func50 (by decide) rfl _ ?_
 intro args ps r hq hp
 obtain ⟨j, o, c, rfl, hj, hx⟩ := onc_inv hq
 obtain ⟨rfl, rfl⟩ := Prod.mk.inj hx
 have hz := hp (szC c) (by simp)
 refine ⟨by simp [norefL, PV.noref, nr_map nr_node], ?_⟩
 simp only [awpBFn, Tryz.ntmps50, List.length_cons, List.length_nil, Nat.reduceAdd, Nat.reduceSub, List.replicate_succ, List.replicate_zero, List.cons_append, List.nil_append, List.map_cons, List.map_nil]
 have hE := fun o => pMakesE (o := o) hj
 cases hm : makesC c with
 | false =>
  simp -implicitDefEqProofs (maxSteps := 2000000) only [R0, R1, R2, R3, R4, R5, R6, R7, R8, R9, R10, R11, R12, R13, R14, R15, R16, PV.strip, stripL, PV.noref, ri, feedL, feeds, Nat.reduceBEq, Array.toList, ↓reduceIte, forall_const, implies_true, Nat.reduceEqDiff, reduceCtorEq, alP, bxP, bsP, ifP, quiet, riD, bs_l, PV.isRef, plainCell, norefL, PV.scalar, scalarL, PV.cells, PV.solid, PV.one, PV.free, freeL, fillP, splice, Nat.reduceAdd, Nat.reduceMul, Nat.reduceSub, Nat.reduceLeDiff, Nat.reduceLT, Int.reduceToNat, Int.reduceEq, Int.reduceLT, Int.reduceLE, Int.reduceNeg, E0_vc, vaN, PV.avoid, avoidL, Nat.reduceGT, Tryz.results50, Tryz.underlying25, D50, pMakesE, pDeepE, List.length_map, hE, hm, RB0]
  exact ⟨hz, by rw [checkC_no hm]⟩
 | true =>
  have hl := makesC_ne hm
  have hj6 : j = 6 := hj.resolve_right (by rintro rfl; simp at hl)
  subst hj6
  have hG := pDeepGE c
  simp -implicitDefEqProofs (maxSteps := 2000000) only [R0, R1, R2, R3, R4, R5, R6, R7, R8, R9, R10, R11, R12, R13, R14, R15, R16, PV.strip, stripL, PV.noref, ri, feedL, feeds, Nat.reduceBEq, Array.toList, ↓reduceIte, forall_const, implies_true, Nat.reduceEqDiff, reduceCtorEq, alP, bxP, bsP, ifP, quiet, riD, bs_l, PV.isRef, plainCell, norefL, PV.scalar, scalarL, PV.cells, PV.solid, PV.one, PV.free, freeL, fillP, splice, Nat.reduceAdd, Nat.reduceMul, Nat.reduceSub, Nat.reduceLeDiff, Nat.reduceLT, Int.reduceToNat, Int.reduceEq, Int.reduceLT, Int.reduceLE, Int.reduceNeg, E0_vc, vaN, PV.avoid, avoidL, Nat.reduceGT, Tryz.results50, Tryz.underlying25, D50, pMakesE, pDeepE, List.length_map, hE, hG, hm, RB0]
  refine ⟨hz, by unfold inI64; omega, makesC_wf hm, by omega, by omega, by omega, by omega, fun h => ?_, fun h => ?_⟩
  ·rw [checkC_yes hm, if_pos h]
  ·rw [checkC_yes hm, if_neg h]
def D24 : FuncId → Option CB
 | 55 => some (.fn rMakesF)
 | 56 => some (.fn rDeepGF)
 | _ => none
theorem D24_ok : AllB E0 D24 := fun g c h => by
 unfold D24 at h
 split at h <;> simp at h <;> subst h
 ·exact rMakes_ok
 ·exact rDeepG_ok
theorem rCCheck_ok : Sound Tryz.prog G0 24 (conT (CB.fn rCCheckF).toCon) := by
 refine fn_of D24_ok mixed true Tryz.func24 (by decide) rfl _ ?_
 intro args ps r hq hp
 obtain ⟨j, o, c, rfl, hj, hx⟩ := onc_inv hq
 obtain ⟨rfl, rfl⟩ := Prod.mk.inj hx
 have hz := hp (szC c) (by simp)
 refine ⟨by simp [norefL, PV.noref, nr_map nr_node], ?_⟩
 simp only [awpBFn, Tryz.ntmps24, List.length_cons, List.length_nil, Nat.reduceAdd, Nat.reduceSub, List.replicate_succ, List.replicate_zero, List.cons_append, List.nil_append, List.map_cons, List.map_nil]
 have hE := fun o => rMakesE (o := o) hj
 cases hm : makesC c with
 | false =>
  simp -implicitDefEqProofs (maxSteps := 2000000) only [R0, R1, R2, R3, R4, R5, R6, R7, R8, R9, R10, R11, R12, R13, R14, R15, R16, PV.strip, stripL, PV.noref, ri, feedL, feeds, Nat.reduceBEq, Array.toList, ↓reduceIte, forall_const, implies_true, Nat.reduceEqDiff, reduceCtorEq, alP, bxP, bsP, ifP, quiet, riD, bs_l, PV.isRef, plainCell, norefL, PV.scalar, scalarL, PV.cells, PV.solid, PV.one, PV.free, freeL, fillP, splice, Nat.reduceAdd, Nat.reduceMul, Nat.reduceSub, Nat.reduceLeDiff, Nat.reduceLT, Int.reduceToNat, Int.reduceEq, Int.reduceLT, Int.reduceLE, Int.reduceNeg, E0_vc, vaN, PV.avoid, avoidL, Nat.reduceGT, Tryz.results24, Tryz.underlying25, D24, rMakesE, rDeepE, List.length_map, hE, hm, RB0]
  exact ⟨hz, by rw [checkC_no hm]⟩
 | true =>
  have hl := makesC_ne hm
  have hj6 : j = 6 := hj.resolve_right (by rintro rfl; simp at hl)
  subst hj6
  have hG := rDeepGE c
  simp -implicitDefEqProofs (maxSteps := 2000000) only [R0, R1, R2, R3, R4, R5, R6, R7, R8, R9, R10, R11, R12, R13, R14, R15, R16, PV.strip, stripL, PV.noref, ri, feedL, feeds, Nat.reduceBEq, Array.toList, ↓reduceIte, forall_const, implies_true, Nat.reduceEqDiff, reduceCtorEq, alP, bxP, bsP, ifP, quiet, riD, bs_l, PV.isRef, plainCell, norefL, PV.scalar, scalarL, PV.cells, PV.solid, PV.one, PV.free, freeL, fillP, splice, Nat.reduceAdd, Nat.reduceMul, Nat.reduceSub, Nat.reduceLeDiff, Nat.reduceLT, Int.reduceToNat, Int.reduceEq, Int.reduceLT, Int.reduceLE, Int.reduceNeg, E0_vc, vaN, PV.avoid, avoidL, Nat.reduceGT, Tryz.results24, Tryz.underlying25, D24, rMakesE, rDeepE, List.length_map, hE, hG, hm, RB0]
  refine ⟨hz, by unfold inI64; omega, makesC_wf hm, by omega, by omega, by omega, by omega, fun h => ?_, fun h => ?_⟩
  ·rw [checkC_yes hm, if_pos h]
  ·rw [checkC_yes hm, if_neg h]
end Go.Ve.H
end
section
set_option maxRecDepth 10000
set_option maxHeartbeats 2000000
namespace Go.Ve.H
open Go Go.Proofs Go.Ve
def stepH (val : Ref → Int) (bs : List Bool) (n : Node) : Bool :=
 if n.op = 1 then true else if n.op = 2 then decide (val n.ref = n.val) else if n.op = 3 then !bs.getD n.a.toNat false
 else if n.op = 4 then bs.getD n.a.toNat false && bs.getD n.b.toNat false else bs.getD n.a.toNat false || bs.getD n.b.toNat false
def runH (val : Ref → Int) : List Node → List Bool → List Bool
 | [], bs => bs
 | n :: c, bs => runH val c (bs ++ [stepH val bs n])
theorem runH_snoc (val : Ref → Int) : ∀ (c : List Node) (n : Node) (bs : List Bool), runH val (c ++ [n]) bs = runH val c bs ++ [stepH val (runH val c bs) n]
 | [], n, bs => rfl
 | m :: c, n, bs => by simp only [List.cons_append, runH]; exact runH_snoc val c n _
theorem runH_len (val : Ref → Int) : ∀ (c : List Node) (bs : List Bool), (runH val c bs).length = bs.length + c.length
 | [], bs => by simp [runH]
 | m :: c, bs => by rw [runH, runH_len val c]; simp; omega
theorem runH_go (val : Ref → Int) {c : List Node} {i : Nat} (h : i < c.length) : runH val (c.take (i + 1)) [] = runH val (c.take i) [] ++ [stepH val (runH val (c.take i) []) (c.getD i noNode)] := by
 rw [List.take_succ, List.getElem?_eq_getElem h, List.getD_eq_getElem?_getD, List.getElem?_eq_getElem h]
 exact runH_snoc val _ _ _
def holdsC (val : Ref → Int) (c : List Node) : Bool := (runH val c []).getD (c.length - 1) false
def hldR (val : Ref → Int) (c : List Node) : PV := .tuple (if checkC c = 0 then [vT (holdsC val c), vI 0] else [vT false, vI (checkC c)])
theorem fI_val : ∀ (l : List Ref) (v : List Int) (r : Ref) (i : Nat), l.length ≤ v.length → (fI l r i = -1 ∧ valR l v r = 0) ∨ ∃ k, k < l.length ∧ fI l r i = (i : Int) + k ∧ v.getD k 0 = valR l v r
 | [], v, r, i, _ => .inl ⟨rfl, by cases v <;> rfl⟩
 | x :: l, [], r, i, h => absurd h (by simp)
 | x :: l, y :: v, r, i, h => by
  by_cases he : r = x
  ·exact .inr ⟨0, by simp, by rw [fI, if_pos he]; simp, by rw [valR, if_pos he.symm]; rfl⟩
  ·have he' : ¬ x = r := fun e => he e.symm
   rcases fI_val l v r (i + 1) (by simpa using h) with ⟨h1, h2⟩ | ⟨k, h1, h2, h3⟩
   ·exact .inl ⟨by rw [fI, if_neg he]; exact h1, by rw [valR, if_neg he']; exact h2⟩
   ·exact .inr ⟨k + 1, by simpa using h1, by rw [fI, if_neg he, show (i : Int) + 1 = ((i + 1 : Nat) : Int) from rfl, h2]; push_cast; omega, by rw [valR, if_neg he']; exact h3⟩
theorem valR_take : ∀ (l : List Ref) (v : List Int) (r : Ref) (n : Nat), l.length ≤ n → valR l (v.take n) r = valR l v r
 | [], v, r, n, _ => by cases v.take n <;> cases v <;> rfl
 | x :: l, [], r, n, _ => by rw [List.take_nil]
 | x :: l, y :: v, r, 0, h => absurd h (by simp)
 | x :: l, y :: v, r, n + 1, h => by rw [List.take_succ_cons, valR, valR, valR_take l v r n (by simpa using h)]
def finCD (fc : List PV) : Option Fin := finD (.agg fc)
theorem finCD_inv {fc : List PV} {f : Fin} (h : finCD fc = some f) : fc = vI f.n :: f.v.map vI := by
 have := finD_inv h
 simpa [finP] using this
theorem finCD_P (f : Fin) : finCD (vI f.n :: f.v.map vI) = some f := finD_P f
def hHoldsCF : List PV → Option (List Prop × PV)
 | [p, .vptr [n, q, rs, s, c] 0, .vptr fc 0] => match refD p, slD 2 refD rs, finCD fc with
  | some r, some l, some f => some ([l.length ≤ 48], vI (valR l f.v r))
  | _, _, _ => none
 | _ => none
theorem hHoldsCF_inv {args : List PV} {x : List Prop × PV} (h : hHoldsCF args = some x) : ∃ (n q s c : PV) (j : Nat) (o : Bool) (l : List Ref) (r : Ref) (f : Fin), args = [refP r, .vptr [n, q, .sl j (l.map refP) o, s, c] 0, .vptr (vI f.n :: f.v.map vI) 0] ∧ (j = 2 ∨ l = []) ∧ x = ([l.length ≤ 48], vI (valR l f.v r)) := by
 unfold hHoldsCF at h
 split at h
 ·split at h
  ·rename_i f g k h1 h2 h3
   injection h with h
   obtain ⟨j, o, rfl, hj⟩ := slD_inv (fun _ _ => refD_inv) h2
   have h4 := finCD_inv h3
   subst h4
   exact ⟨_, _, _, _, j, o, g, f, k, by rw [refD_inv h1], hj, h.symm⟩
  ·cases h
 ·cases h
theorem hHoldsCE {n q s c : PV} {j : Nat} {o : Bool} {l : List Ref} (hj : j = 2 ∨ l = []) (t : Int) (m : ByteArray) (f : Fin) : hHoldsCF [.agg [vI t, vS m], .vptr [n, q, .sl j (l.map refP) o, s, c] 0, .vptr (vI f.n :: f.v.map vI) 0] = some ([l.length ≤ 48], vI (valR l f.v ⟨t, m⟩)) := by
 show (match refD (refP ⟨t, m⟩), slD 2 refD (.sl j (l.map refP) o), finCD (vI f.n :: f.v.map vI) with | some r, some l, some f => some ([l.length ≤ 48], vI (valR l f.v r)) | _, _, _ => none) = _
 rw [slD_of refD_P hj, finCD_P]; rfl
def D31 : FuncId → Option CB
 | 32 => some (.fn idxF)
 | _ => none
theorem D31_ok : AllB E0 D31 := fun g c h => by
 unfold D31 at h
 split at h <;> simp at h <;> subst h
 ·exact idx_ok
theorem hHoldsC_ok : Sound Tryz.prog G0 31 (conT (CB.fn hHoldsCF).toCon) := by
 refine fn_of D31_ok mixed true Tryz.func31 (by decide) rfl _ ?_
 intro args ps r hq hp
 obtain ⟨n, q, s, c, j, o, l, r, f, rfl, hj, hx⟩ := hHoldsCF_inv hq
 obtain ⟨rfl, rfl⟩ := Prod.mk.inj hx
 have hf := hp (l.length ≤ 48) (by simp)
 refine ⟨by simp [norefL, PV.noref, nr_map nr_ref, nr_ref], ?_⟩
 simp only [awpBFn, Tryz.ntmps31, List.length_cons, List.length_nil, Nat.reduceAdd, Nat.reduceSub, List.replicate_succ, List.replicate_zero, List.cons_append, List.nil_append, List.map_cons, List.map_nil]
 have hE := fun o => idxE (o := o) hj r.t r.n
 simp -implicitDefEqProofs (maxSteps := 2000000) only [R0, R1, R2, R3, R4, R5, R6, R7, R8, R9, R10, R11, R12, R13, R14, R15, R16, PV.strip, stripL, PV.noref, ri, feedL, feeds, Nat.reduceBEq, Array.toList, ↓reduceIte, forall_const, implies_true, Nat.reduceEqDiff, reduceCtorEq, alP, bxP, bsP, ifP, quiet, riD, bs_l, PV.isRef, plainCell, norefL, PV.scalar, scalarL, PV.cells, PV.solid, PV.one, PV.free, freeL, fillP, splice, Nat.reduceAdd, Nat.reduceMul, Nat.reduceSub, Nat.reduceLeDiff, Nat.reduceLT, Int.reduceToNat, Int.reduceEq, Int.reduceLT, Int.reduceLE, Int.reduceNeg, E0_vc, vaN, PV.avoid, avoidL, Nat.reduceGT, Tryz.results31, fa27_2, ag22, sz22, zd22, ag45, sz45, fa48_1, Tryz.underlying46, sz2, zd2, ag2, D31, idxE, List.length_map, refP, hE]
 show _ ∧ (0 ≤ fI l r 0 → (0 ≤ fI l r 0 ∧ fI l r 0 < 48) ∧ 1 + (fI l r 0).toNat < f.v.length + 1 ∧ ((vI f.n :: List.map vI f.v).getD (1 + (fI l r 0).toNat) (vI 0)).strip = vI (valR l f.v r)) ∧ (¬0 ≤ fI l r 0 → vI 0 = vI (valR l f.v r))
 have hv := fI_val l f.v r 0 (by rw [f.hl]; exact hf)
 simp only [Int.natCast_zero, Int.ofNat_zero, Int.zero_add] at hv
 rcases hv with ⟨h1, h2⟩ | ⟨k, h1, h2, h3⟩
 ·rw [h1, h2]
  exact ⟨by omega, fun h => by omega, fun _ => rfl⟩
 ·rw [h2]
  refine ⟨by omega, fun h => ⟨by omega, by rw [f.hl]; omega, ?_⟩, fun h => by omega⟩
  rw [show 1 + ((k : Int)).toNat = k + 1 by omega, List.getD_cons_succ, gd_m, h3]; rfl
end Go.Ve.H
end
section
set_option maxRecDepth 10000
set_option maxHeartbeats 8000000
namespace Go.Ve.H
open Go Go.Proofs Go.Ve
theorem free_vI : ∀ l : List Int, freeL (l.map vI) = true
 | [] => rfl
 | x :: l => by simp only [List.map_cons, freeL, free_vI l]; rfl
theorem rgA : List.range 1 = [0] := rfl
theorem strip_app : ∀ a b : List PV, stripL (a ++ b) = stripL a ++ stripL b
 | [], _ => rfl
 | x :: a, b => by simp only [List.cons_append, stripL, strip_app a b]
end Go.Ve.H
end
namespace Go.Ve.H
open Go Go.Proofs Go.Ve
theorem cmpB_refl : ∀ a : List UInt8, Lib.compareBytes a a = 0
 | [] => rfl
 | x :: a => by
  have h : ¬ x < x := UInt8.lt_irrefl x
  unfold Lib.compareBytes
  rw [if_neg h, if_neg h]; exact cmpB_refl a
theorem cmpB_trans : ∀ {a b c : List UInt8}, Lib.compareBytes a b < 0 → Lib.compareBytes b c < 0 → Lib.compareBytes a c < 0
 | [], [], c, h, _ => by simp [Lib.compareBytes] at h
 | [], y :: b, [], _, h => by simp [Lib.compareBytes] at h
 | [], y :: b, z :: c, _, _ => by simp [Lib.compareBytes]
 | x :: a, [], c, h, _ => by simp [Lib.compareBytes] at h
 | x :: a, y :: b, [], _, h => by simp [Lib.compareBytes] at h
 | x :: a, y :: b, z :: c, h1, h2 => by
  unfold Lib.compareBytes at h1 h2 ⊢
  by_cases c1 : x < y
  ·by_cases c2 : y < z
   ·rw [if_pos (UInt8.lt_trans c1 c2)]; omega
   ·rw [if_neg c2] at h2
    by_cases c3 : z < y
    ·rw [if_pos c3] at h2; omega
    ·have e : y = z := UInt8.le_antisymm (UInt8.not_lt.1 c3) (UInt8.not_lt.1 c2)
     rw [if_pos (by rw [← e]; exact c1)]; omega
  ·rw [if_neg c1] at h1
   by_cases c4 : y < x
   ·rw [if_pos c4] at h1; omega
   ·rw [if_neg c4] at h1
    have e : x = y := UInt8.le_antisymm (UInt8.not_lt.1 c4) (UInt8.not_lt.1 c1)
    subst e
    by_cases c2 : x < z
    ·rw [if_pos c2]; omega
    ·rw [if_neg c2] at h2 ⊢
     by_cases c3 : z < x
     ·rw [if_pos c3] at h2; omega
     ·rw [if_neg c3] at h2 ⊢
      exact cmpB_trans h1 h2
theorem cmpRef_refl (a : Ref) : cmpRef a a = 0 := by
 unfold cmpRef; rw [if_neg (by simp), if_neg (by simp)]; exact cmpB_refl _
theorem cmpRef_trans {a b c : Ref} (h1 : cmpRef a b < 0) (h2 : cmpRef b c < 0) : cmpRef a c < 0 := by
  unfold cmpRef at *
  have hd : ∀ x y : Ref, (decide (x.t < 0) ≠ decide (y.t < 0)) = ¬ (x.t < 0 ↔ y.t < 0) := fun x y => by
    rw [ne_eq, decide_eq_decide]
  simp only [hd] at *
  by_cases ta : a.t < 0 <;> by_cases tb : b.t < 0 <;> by_cases tc : c.t < 0 <;> simp only [ta, tb, tc, iff_self, not_true_eq_false, if_false, if_true, iff_false, false_iff, iff_true, true_iff, not_false_eq_true, ↓reduceIte] at h1 h2 ⊢ <;> first
    | omega
    | (by_cases e1 : a.t = b.t <;> by_cases e2 : b.t = c.t
       · simp only [e1, e2, ne_eq, not_true_eq_false, if_false, ↓reduceIte] at h1 h2 ⊢
         exact cmpB_trans h1 h2
       · rw [if_neg (by simpa using e1)] at h1
         rw [if_pos e2] at h2
         rw [if_pos (by omega)]; omega
       · rw [if_pos e1] at h1
         rw [if_neg (by simpa using e2)] at h2
         rw [if_pos (by omega)]; omega
       · rw [if_pos e1] at h1
         rw [if_pos e2] at h2
         rw [if_pos (by omega)]; omega)
def ascR (l : List Ref) : Prop := l.Pairwise fun a b => cmpRef a b < 0
theorem ascR_ext : ∀ {a b : List Ref}, ascR a → ascR b → (∀ x, x ∈ a ↔ x ∈ b) → a = b
 | [], [], _, _, _ => rfl
 | [], y :: b, _, _, h => absurd ((h y).2 (by simp)) (by simp)
 | x :: a, [], _, _, h => absurd ((h x).1 (by simp)) (by simp)
 | x :: a, y :: b, ha, hb, h => by
  obtain ⟨a1, a2⟩ := List.pairwise_cons.1 ha
  obtain ⟨b1, b2⟩ := List.pairwise_cons.1 hb
  have irr : ∀ z : Ref, ¬ cmpRef z z < 0 := fun z hz => by rw [cmpRef_refl] at hz; omega
  have hxy : x = y := by
   rcases List.mem_cons.1 ((h x).1 (by simp)) with e | e
   ·exact e
   ·rcases List.mem_cons.1 ((h y).2 (by simp)) with e' | e'
    ·exact e'.symm
    ·exact absurd (cmpRef_trans (a1 y e') (b1 x e)) (irr x)
  subst hxy
  rw [ascR_ext a2 b2 (fun z => ?_)]
  constructor
  ·intro hz
   rcases List.mem_cons.1 ((h z).1 (by simp [hz])) with e | e
   ·subst e; exact absurd (a1 z hz) (irr z)
   ·exact e
  ·intro hz
   rcases List.mem_cons.1 ((h z).2 (by simp [hz])) with e | e
   ·subst e; exact absurd (b1 z hz) (irr z)
   ·exact e
end Go.Ve.H
section
set_option maxRecDepth 10000
set_option maxHeartbeats 8000000
namespace Go.Ve.H
open Go Go.Proofs Go.Ve
def refs2 : List Ref → List PV
 | [] => []
 | r :: l => vI r.t :: vS r.n :: refs2 l
theorem refs2_len : ∀ l : List Ref, (refs2 l).length = l.length * 2
 | [] => rfl
 | r :: l => by rw [refs2, List.length_cons, List.length_cons, refs2_len l, List.length_cons]; omega
theorem refs2_drop : ∀ (l : List Ref) (i : Nat), (refs2 l).drop (i * 2) = refs2 (l.drop i)
 | l, 0 => by simp
 | [], i + 1 => by simp [refs2]
 | r :: l, i + 1 => by
  rw [refs2, List.drop_succ_cons, ← refs2_drop l i, show (i + 1) * 2 = i * 2 + 1 + 1 by omega, List.drop_succ_cons, List.drop_succ_cons]
theorem refs2_take : ∀ (l : List Ref) (i : Nat), (refs2 l).take (i * 2) = refs2 (l.take i)
 | l, 0 => by simp [refs2]
 | [], i + 1 => by simp [refs2]
 | r :: l, i + 1 => by
  rw [refs2, List.take_succ_cons, refs2, ← refs2_take l i, show (i + 1) * 2 = i * 2 + 1 + 1 by omega, List.take_succ_cons, List.take_succ_cons]
theorem refs2_app : ∀ a b : List Ref, refs2 (a ++ b) = refs2 a ++ refs2 b
 | [], b => rfl
 | r :: a, b => by rw [List.cons_append, refs2, refs2, refs2_app a b]; rfl
theorem refs2_strip : ∀ l : List Ref, stripL (refs2 l) = refs2 l
 | [] => rfl
 | r :: l => by simp only [refs2, stripL, refs2_strip l]; rfl
theorem refs2_flat : ∀ l : List Ref, stripL (List.flatMap PV.cells (l.map refP)) = refs2 l
 | [] => rfl
 | r :: l => by
  rw [List.map_cons, List.flatMap_cons, strip_app, refs2_flat l, refs2]; rfl
theorem refs2_chunks : ∀ l : List Ref, chunks 2 (refs2 l) l.length = l.map refP
 | [] => rfl
 | r :: l => by
  rw [List.length_cons, chunks, if_neg (by decide), refs2]
  simp only [List.take_succ_cons, List.take_zero, List.drop_succ_cons, List.drop_zero, refs2_chunks l]; rfl
theorem refs2_plain : ∀ l : List Ref, (refs2 l).all plainCell = true
 | [] => rfl
 | r :: l => by simp only [refs2, List.all_cons, refs2_plain l]; rfl
theorem refs2_frz (M : List Blk) (d : Nat) : ∀ l : List Ref, (refs2 l).map (frz M d) = refs2 l
 | [] => rfl
 | r :: l => by simp only [refs2, List.map_cons, refs2_frz M d l, frz_v]
theorem refs2_avoid (b : Nat) : ∀ l : List Ref, avoidL b (refs2 l) = true
 | [] => rfl
 | r :: l => by simp only [refs2, avoidL, refs2_avoid b l]; rfl
def refC (l : List Ref) (cap : Nat) : List PV := padded (refs2 l) (cap * 2)
theorem refC_eq (l : List Ref) (cap : Nat) : refC l cap = refs2 l ++ List.replicate (cap * 2 - (refs2 l).length) .junk := rfl
theorem refC_len {l : List Ref} {cap : Nat} (h : l.length ≤ cap) : (refC l cap).length = cap * 2 := by
 rw [refC_eq, List.length_append, refs2_len, List.length_replicate]; omega
theorem refC_at {l : List Ref} {cap k : Nat} (h : k < l.length) : List.take 2 (List.drop (k * 2) (refC l cap)) = [vI (l.getD k noRef).t, vS (l.getD k noRef).n] := by
 have hn : l[k] = l.getD k noRef := by rw [List.getD_eq_getElem?_getD, List.getElem?_eq_getElem h]; rfl
 rw [refC_eq, List.drop_append_of_le_length (by rw [refs2_len]; omega), refs2_drop, List.drop_eq_getElem_cons h, hn, refs2]
 rfl
theorem refC_take {l : List Ref} {cap k : Nat} (h : k ≤ l.length) : List.take (k * 2) (refC l cap) = refs2 (l.take k) := by
 rw [refC_eq, List.take_append_of_le_length (by rw [refs2_len]; omega), refs2_take]
theorem refC_tail {l : List Ref} {cap k : Nat} (h : k ≤ l.length) : List.take ((l.length - k) * 2) (List.drop (k * 2) (refC l cap)) = refs2 (l.drop k) := by
 rw [refC_eq, List.drop_append_of_le_length (by rw [refs2_len]; omega), refs2_drop]
 exact List.take_left' (by rw [refs2_len, List.length_drop])
theorem refC_avoid (b : Nat) (l : List Ref) (cap : Nat) : avoidL b (refC l cap) = true := by
 rw [refC_eq, avoidL_app, refs2_avoid, avoidL_junk]; rfl
theorem frz_refs (d : Nat) {M : List Blk} {b cap : Nat} {l : List Ref} {B : List PV} (h : M[b]? = some (.live (refs2 l ++ B))) : frz M (d + 1) (.rs 2 b 0 l.length cap) = .sl 2 (l.map refP) false := by
 show (if (PV.rs 2 b 0 l.length cap).noref = true then _ else frzC M (frz M d) (.rs 2 b 0 l.length cap)) = _
 rw [if_neg (by simp [PV.noref])]
 show frzS 2 0 l.length (.rs 2 b 0 l.length cap) (frz M d) M[b]? = _
 rw [h]
 have h1 : ((refs2 l ++ B).drop 0).take (l.length * 2) = refs2 l := by
  rw [List.drop_zero]; exact List.take_left' (refs2_len l)
 simp only [frzS, h1, refs2_frz, refs2_strip]
 rw [if_pos ⟨by decide, by rw [List.length_append, refs2_len]; omega, refs2_plain l⟩, refs2_chunks]
theorem frz_pair {M : List Blk} {b cap : Nat} {l : List Ref} {B : List PV} (h : M[b]? = some (.live (refs2 l ++ B))) (e : Int) : frz M 4 (.tuple [.rs 2 b 0 l.length cap, vI e]) = .tuple [.sl 2 (l.map refP) false, vI e] := by
 show (if (PV.tuple [.rs 2 b 0 l.length cap, vI e]).noref = true then _ else frzC M (frz M 3) (.tuple [.rs 2 b 0 l.length cap, vI e])) = _
 rw [if_neg (by simp [PV.noref, norefL])]
 show PV.tuple [frz M 3 (.rs 2 b 0 l.length cap), frz M 3 (vI e)] = _
 rw [frz_refs 2 h, frz_v]
def insR : List Ref → Ref → List Ref
 | [], r => [r]
 | q :: l, r => if cmpRef q r < 0 then q :: insR l r else if q = r then q :: l else r :: q :: l
def refsD : List Node → List Ref → List Ref
 | [], l => l
 | n :: c, l => refsD c (if n.op = 2 then insR l n.ref else l)
theorem insR_at : ∀ {l : List Ref} {k : Nat} {r : Ref}, k ≤ l.length → (∀ j, j < k → cmpRef (l.getD j noRef) r < 0) → (k < l.length → ¬ cmpRef (l.getD k noRef) r < 0) → insR l r = if k < l.length ∧ l.getD k noRef = r then l else l.take k ++ r :: l.drop k
 | [], k, r, h1, _, _ => by
  have : k = 0 := by simpa using h1
  subst this
  rfl
 | q :: l, 0, r, _, _, h3 => by
  have h : ¬ cmpRef q r < 0 := h3 (by simp)
  rw [insR, if_neg h]
  by_cases he : q = r
  ·rw [if_pos he, if_pos ⟨by simp, he⟩]
  ·rw [if_neg he, if_neg (fun h => he h.2)]; rfl
 | q :: l, k + 1, r, h1, h2, h3 => by
  have h : cmpRef q r < 0 := h2 0 (by omega)
  rw [insR, if_pos h, insR_at (l := l) (k := k) (r := r) (by simpa using h1) (fun j hj => h2 (j + 1) (by omega)) (fun hk => h3 (by simpa using hk))]
  simp only [List.length_cons, Nat.add_lt_add_iff_right, List.getD_cons_succ]
  by_cases hc : k < l.length ∧ l.getD k noRef = r
  ·rw [if_pos hc, if_pos hc]
  ·rw [if_neg hc, if_neg hc]; rfl
theorem refsD_go {c : List Node} {i : Nat} (h : i < c.length) (l : List Ref) : refsD (c.drop i) l = refsD (c.drop (i + 1)) (if (c.getD i noNode).op = 2 then insR l (c.getD i noNode).ref else l) := by
 have hn : c[i] = c.getD i noNode := by rw [List.getD_eq_getElem?_getD, List.getElem?_eq_getElem h]; rfl
 rw [List.drop_eq_getElem_cons h, hn, refsD]
theorem insR_len : ∀ (l : List Ref) (r : Ref), (insR l r).length ≤ l.length + 1
 | [], r => Nat.le_refl _
 | q :: l, r => by
  unfold insR
  have := insR_len l r
  split
  ·simp only [List.length_cons]; omega
  ·split
   ·simp
   ·simp
theorem insR_mem : ∀ (l : List Ref) (r x : Ref), x ∈ insR l r ↔ x = r ∨ x ∈ l
 | [], r, x => by simp [insR]
 | q :: l, r, x => by
  unfold insR
  split
  ·simp only [List.mem_cons, insR_mem l r x]
   constructor
   ·rintro (h | h | h)
    ·exact .inr (.inl h)
    ·exact .inl h
    ·exact .inr (.inr h)
   ·rintro (h | h | h)
    ·exact .inr (.inl h)
    ·exact .inl h
    ·exact .inr (.inr h)
  ·split
   ·rename_i h1 h2
    subst h2
    simp only [List.mem_cons]
    constructor
    ·rintro (h | h)
     ·exact .inl h
     ·exact .inr (.inr h)
    ·rintro (h | h | h)
     ·exact .inl h
     ·exact .inl h
     ·exact .inr h
   ·simp only [List.mem_cons]
theorem runS_fields : ∀ (c : List Node) (i : Int) (st : List Int), runS i c st = true → ∀ n ∈ c, fieldsOk n = true
 | [], _, _, _, n, hn => by simp at hn
 | m :: c, i, st, h, n, hn => by
  unfold runS at h
  simp only [Bool.and_eq_true] at h
  rcases List.mem_cons.1 hn with rfl | hn
  ·exact h.1
  ·obtain ⟨_, h2⟩ := h
   split at h2
   ·exact runS_fields c _ _ h2 n hn
   ·cases h2
theorem makesC_fields {c : List Node} (h : makesC c = true) : ∀ n ∈ c, fieldsOk n = true := by
 unfold makesC at h
 simp only [Bool.and_eq_true] at h
 exact runS_fields c 0 [] h.2
theorem fieldsOk_ref {n : Node} (h : fieldsOk n = true) (h2 : n.op = 2) : -1 ≤ n.ref.t ∧ n.ref.t ≤ 9999 := by
 unfold fieldsOk at h
 rw [if_pos h2] at h
 simp only [Bool.and_eq_true, decide_eq_true_eq] at h
 exact ⟨h.1.1.2, h.1.2⟩
theorem checkC_makes {c : List Node} (h : checkC c = 0) : makesC c = true := by
 cases hm : makesC c with
 | true => rfl
 | false => rw [checkC, hm] at h; simp at h
end Go.Ve.H
end
section
set_option maxRecDepth 10000
set_option maxHeartbeats 8000000
namespace Go.Ve.H
open Go Go.Proofs Go.Ve
def histC (h : Hist) (j1 j2 j3 : Nat) (o : Bool × Bool × Bool) : List PV := [vS h.name, vI h.quant, .sl j1 (h.refs.map refP) o.1, .sl j2 (h.rows.map rowP) o.2.1, .sl j3 (h.cond.map nodeP) o.2.2]
def oF : Bool × Bool × Bool := (false, false, false)
def fnH : PV := .func (.func 31) [] [.ptr 0 0, .ptr 1 0]
def finC (f : Fin) : List PV := vI f.n :: f.v.map vI
def pHoldsT : PT := fun args M K => ∃ (h : Hist) (j1 j2 j3 : Nat) (oo : Bool × Bool × Bool) (f : Fin), args = [.sl j3 (h.cond.map nodeP) false, .func (.func 31) [] [.ptr 0 0, .ptr 1 0]] ∧ (j1 = 2 ∨ h.refs = []) ∧ (j3 = 6 ∨ h.cond = []) ∧ szC h.cond ∧ h.refs.length ≤ 48 ∧
 M = [.live (histC h j1 j2 j3 oo), .live (finC f)] ∧ ∀ X, K (hldR (valR h.refs f.v) h.cond) ([.live (histC h j1 j2 j3 oo), .live (finC f)] ++ X)
theorem pHoldsT_mono : ∀ args B K K', (∀ r b, K r b → K' r b) → pHoldsT args B K → pHoldsT args B K' := by
 rintro args M K K' hk ⟨h, j1, j2, j3, oo, f, h1, h2, h3, h4, h5, h6, h7⟩
 exact ⟨h, j1, j2, j3, oo, f, h1, h2, h3, h4, h5, h6, fun X => hk _ _ (h7 X)⟩
theorem pHoldsE (Y : Option Yd) (args : List PV) (M : List Blk) (K : PV → List Blk → Prop) : conY Y (Con.gen pHoldsT pHoldsT_mono) args M K = pHoldsT args M K := rfl
def bC (val : Ref → Int) (c : List Node) (i : Nat) : List PV := (runH val (c.take i) []).map vT ++ List.replicate (c.length - i) (vT false)
theorem bC_len {val : Ref → Int} {c : List Node} {i : Nat} (h : i ≤ c.length) : (bC val c i).length = c.length := by
 rw [bC, List.length_append, List.length_map, runH_len, List.length_replicate, List.length_take]; simp; omega
theorem bC_get {val : Ref → Int} {c : List Node} {i a : Nat} (h : i ≤ c.length) (ha : a < i) (d : PV) : (bC val c i).getD a d = vT ((runH val (c.take i) []).getD a false) := by
 have hl : (runH val (c.take i) []).length = i := by rw [runH_len, List.length_take]; simp; omega
 rw [bC, List.getD_eq_getElem?_getD, List.getElem?_append_left (by rw [List.length_map, hl]; exact ha), List.getElem?_map, List.getD_eq_getElem?_getD, List.getElem?_eq_getElem (by rw [hl]; exact ha)]; rfl
theorem bC_set {val : Ref → Int} {c : List Node} {i : Nat} (h : i < c.length) {b : Bool} (hb : b = stepH val (runH val (c.take i) []) (c.getD i noNode)) : splice (bC val c i) i [vT b] = bC val c (i + 1) := by
 have hl : ((runH val (c.take i) []).map vT).length = i := by rw [List.length_map, runH_len, List.length_take]; simp; omega
 have e : c.length - i = (c.length - (i + 1)) + 1 := by omega
 rw [bC, bC, runH_go val h, ← hb, splice, List.take_left' hl, List.map_append, e, List.replicate_succ, List.append_assoc, List.append_assoc]
 congr 1
 rw [List.drop_append, hl, List.drop_eq_nil_of_le (by rw [hl]; simp)]
 simp
theorem plain_histC (h : Hist) (j1 j2 j3 : Nat) (oo : Bool × Bool × Bool) : (histC h j1 j2 j3 oo).all plainCell = true := by
 simp [histC, plain_sl (nr_map nr_ref _), plain_sl (nr_map nr_row _), plain_sl (nr_map nr_node _)]; exact ⟨rfl, rfl⟩
theorem plain_finC (f : Fin) : (finC f).all plainCell = true := by
 rw [finC, List.all_cons, List.all_map, show f.v.all (plainCell ∘ vI) = true from List.all_eq_true.2 (fun _ _ => rfl)]; rfl
theorem strip_histC (h : Hist) (j1 j2 j3 : Nat) (oo : Bool × Bool × Bool) : stripL (histC h j1 j2 j3 oo) = histC h j1 j2 j3 oF := rfl
theorem strip_finC (f : Fin) : stripL (finC f) = finC f := by rw [finC, stripL, strip_vI]; rfl
theorem lt_histC (n : Nat) (h : Hist) (j1 j2 j3 : Nat) (oo : Bool × Bool × Bool) : ltL n (histC h j1 j2 j3 oo) = true := rfl
theorem lt_finC (n : Nat) (f : Fin) : ltL n (finC f) = true := by
 rw [finC, ltL, ltL_vI]; rfl
theorem lt_vTs (n : Nat) : ∀ l : List Bool, ltL n (l.map vT) = true
 | [] => rfl
 | b :: l => by rw [List.map_cons, ltL, lt_vTs n l]; rfl
theorem lt_bC (n : Nat) (val : Ref → Int) (c : List Node) (i : Nat) : ltL n (bC val c i) = true := by
 rw [bC, show List.replicate (c.length - i) (vT false) = (List.replicate (c.length - i) false).map vT from List.map_replicate.symm, ← List.map_append, lt_vTs]
theorem zeros_b {val : Ref → Int} {c : List Node} (n : Int) : zeros (.val (.bool false)) (c.length : Int).toNat 1 = bC val c 0 := by
 rw [zeros1 (.val (.bool false)) rfl, Int.toNat_natCast]; rfl
def D30 : FuncId → Option CB
 | 31 => some (lendC hHoldsCF)
 | 50 => some (.fn pCCheckF)
 | _ => none
theorem D30_ok : AllB E0 D30 := fun g c h => by
 unfold D30 at h
 split at h <;> simp at h <;> subst h
 ·exact hHoldsC_ok.lend
 ·exact pCCheck_ok
theorem D30_tame : Tame E0 (conD D30) := by
 refine ⟨rfl, fun g c h => ?_⟩
 unfold conD D30 at h
 split at h
 ·simp at h; subst h; exact .inr ⟨_, rfl⟩
 ·simp at h; subst h; exact .inl ⟨_, rfl⟩
 ·simp at h
def W30 := And.intro @Tryz.results30 (And.intro @Tryz.underlying25 (And.intro @Tryz.underlying104 (And.intro @sz4 (And.intro @zs4 (And.intro @by4 (And.intro @zp4 (And.intro @zd4 (And.intro @sz52 (And.intro @zd52 (And.intro @ag52 (And.intro @zp52 (And.intro @fa52_0 (And.intro @ag3 (And.intro @sz3 (And.intro @zd3 (And.intro @fa52_3 (And.intro @ag45 (And.intro @sz45 (And.intro @fa52_4 (And.intro @ag2 (And.intro @sz2 (And.intro @zd2 (And.intro @fa52_1 (And.intro @ag4 (And.intro @fa52_2 (@pCCheckE))))))))))))))))))))))))))
theorem pHolds_ok : Sound Tryz.prog G0 30 pHoldsT := by
 refine Sound.weaken (sound_of_awp (D := conD D30) D30_ok.con mixed Tryz.func30 (by decide) rfl) ?_
 intro args M K h
 refine awpBFn_sound (s := true) ?_
 obtain ⟨h, j1, j2, j3, oo, f, rfl, hj1, hj3, hz, hl, rfl, hK⟩ := h
 simp only [awpBFn, Tryz.ntmps30, List.length_cons, List.length_nil, Nat.reduceAdd, Nat.reduceSub, List.replicate_succ, List.replicate_zero, List.cons_append, List.nil_append, List.map_cons, List.map_nil]
 have hE := fun o => pCCheckE (o := o) hj3
 by_cases hck : checkC h.cond = 0
 case neg =>
  simp -implicitDefEqProofs (maxSteps := 2000000) only [R0, R1, R2, R3, R4, R5, R6, R7, R8, R9, R10, R11, R12, R13, R14, R15, R16, PV.strip, stripL, PV.noref, ri, feedL, feeds, Nat.reduceBEq, Array.toList, ↓reduceIte, forall_const, implies_true, Nat.reduceEqDiff, reduceCtorEq, alP, bxP, bsP, ifP, quiet, riD, bs_l, PV.isRef, plainCell, norefL, PV.scalar, scalarL, PV.cells, PV.solid, PV.one, PV.free, freeL, fillP, splice, Nat.reduceAdd, Nat.reduceMul, Nat.reduceSub, Nat.reduceLeDiff, Nat.reduceLT, Int.reduceToNat, Int.reduceEq, Int.reduceLT, Int.reduceLE, Int.reduceNeg, E0_vc, vaN, PV.avoid, avoidL, Nat.reduceGT, W30, D30, List.length_map, hE, hck, RB0]
  have := hK []
  rw [hldR, if_neg hck, List.append_nil] at this
  exact ⟨hz, this⟩
 have hm := checkC_makes hck
 have hlc := makesC_ne hm
 have hj6 : j3 = 6 := hj3.resolve_right (by intro e; rw [e] at hlc; simp at hlc)
 subst hj6
 simp -implicitDefEqProofs (maxSteps := 2000000) only [R0, R1, R2, R3, R4, R5, R6, R7, R8, R9, R10, R11, R12, R13, R14, R15, R16, PV.strip, stripL, PV.noref, ri, feedL, feeds, Nat.reduceBEq, Array.toList, ↓reduceIte, forall_const, implies_true, Nat.reduceEqDiff, reduceCtorEq, alP, bxP, bsP, ifP, quiet, riD, bs_l, PV.isRef, plainCell, norefL, PV.scalar, scalarL, PV.cells, PV.solid, PV.one, PV.free, freeL, fillP, splice, Nat.reduceAdd, Nat.reduceMul, Nat.reduceSub, Nat.reduceLeDiff, Nat.reduceLT, Int.reduceToNat, Int.reduceEq, Int.reduceLT, Int.reduceLE, Int.reduceNeg, E0_vc, vaN, PV.avoid, avoidL, Nat.reduceGT, W30, D30, List.length_map, hE, hck, RB0]
 refine ⟨hz, by omega, by omega, by unfold roomy; simp; omega, ?_⟩
 have hb0 : zeros (.val (.bool false)) (h.cond.length : Int).toNat 1 = bC (valR h.refs f.v) h.cond 0 := zeros_b 0
 rw [hb0, Int.toNat_natCast]
 refine loopB_by (fun i : Nat => [.sl 6 (h.cond.map nodeP) false, fnH, .junk, .junk, .junk, .junk, .junk, .rs 1 2 0 h.cond.length h.cond.length, .junk, .junk, .junk, .junk, .junk, .junk, .junk, .junk, .junk, .junk, .sl 6 (h.cond.map nodeP) false, vI h.cond.length, vI i, .junk, .junk, .junk, .junk, .junk, .junk, .junk, .junk, .junk, .junk, .junk, .junk, .junk, .junk, .junk, .junk, .junk, .junk, .junk, .junk, .junk, .junk, .junk, .junk, .junk, .junk, .junk, .junk, .junk, .junk, .junk, .junk, .junk, .junk, .junk, .junk, .junk, .junk, .junk, .junk, .junk, .junk, .junk, .junk, .junk, .junk, .junk, .junk, .junk, .junk, .junk, .junk, .junk, .junk, .junk, .junk, .junk, .junk, .junk, .junk, .junk, .junk, .junk, .junk, .junk, .junk, .junk, .junk, .junk, .junk, .junk, .junk, .junk, .junk, .junk]) (fun i => [.live (histC h j1 j2 6 oo), .live (finC f), .live (bC (valR h.refs f.v) h.cond i)])
  (fun i => i ≤ h.cond.length) (fun i => h.cond.length - i) 0 ?_ ?_ ?_
 ·simp only [RG0, RG1, Nat.reduceAdd, ltL, PV.lt, Blk.lt, Nat.reduceLT, Nat.reduceLeDiff, Wk_rfl, ltL_vI, wk_sl, fnH]; trace_state
 ·exact Nat.zero_le _
 intro i hP
 have hblen := bC_len (val := valR h.refs f.v) (show i ≤ h.cond.length from hP)
 by_cases hi : i < h.cond.length
 case neg =>
  have hi' : ¬ (i : Int) < h.cond.length := by omega
  simp -implicitDefEqProofs (maxSteps := 2000000) only [R0, R1, R2, R3, R4, R5, R6, R7, R8, R9, R10, R11, R12, R13, R14, R15, R16, PV.strip, stripL, PV.noref, ri, feedL, feeds, Nat.reduceBEq, Array.toList, ↓reduceIte, forall_const, implies_true, Nat.reduceEqDiff, reduceCtorEq, alP, bxP, bsP, ifP, quiet, riD, bs_l, PV.isRef, plainCell, norefL, PV.scalar, scalarL, PV.cells, PV.solid, PV.one, PV.free, freeL, fillP, splice, Nat.reduceAdd, Nat.reduceMul, Nat.reduceSub, Nat.reduceLeDiff, Nat.reduceLT, Int.reduceToNat, Int.reduceEq, Int.reduceLT, Int.reduceLE, Int.reduceNeg, E0_vc, vaN, PV.avoid, avoidL, Nat.reduceGT, W30, D30, fnH, gd_node, nodeP, List.length_map, Int.toNat_natCast, hi', hblen, RB0]
  have e1 : ((h.cond.length : Int) - 1).toNat = h.cond.length - 1 := by omega
  have e2 : i = h.cond.length := by omega
  refine ⟨by unfold inI64; omega, by omega, by omega, ?_⟩
  rw [e1, bC_get (Nat.le_of_eq e2) (by omega), e2, List.take_length]
  have := hK [.live (bC (valR h.refs f.v) h.cond h.cond.length)]
  rw [hldR, if_pos hck] at this
  exact this
 have hi' : (i : Int) < h.cond.length := by omega
 have hmem : h.cond.getD i noNode ∈ h.cond := by
  rw [List.getD_eq_getElem?_getD, List.getElem?_eq_getElem hi]; exact List.getElem_mem hi
 have hwf := makesC_wf hm i (h.cond.getD i noNode) (by rw [List.getD_eq_getElem?_getD, List.getElem?_eq_getElem hi]; rfl)
 have hfo := makesC_fields hm _ hmem
 have hset := fun b hb => bC_set (val := valR h.refs f.v) hi (b := b) hb
 have hget := fun a ha d => bC_get (val := valR h.refs f.v) (c := h.cond) (i := i) (a := a) hP ha d
 have hC : ∀ (t : Int) (m : ByteArray), hHoldsCF [.agg [vI t, vS m], .vptr (histC h j1 j2 6 oF) 0, .vptr (finC f) 0] = some ([h.refs.length ≤ 48], vI (valR h.refs f.v ⟨t, m⟩)) := fun t m => hHoldsCE hj1 t m f
 by_cases h1 : (h.cond.getD i noNode).op = 1
 ·simp -implicitDefEqProofs (maxSteps := 2000000) only [R0, R1, R2, R3, R4, R5, R6, R7, R8, R9, R10, R11, R12, R13, R14, R15, R16, PV.strip, stripL, PV.noref, ri, feedL, feeds, Nat.reduceBEq, Array.toList, ↓reduceIte, forall_const, implies_true, Nat.reduceEqDiff, reduceCtorEq, alP, bxP, bsP, ifP, quiet, riD, bs_l, PV.isRef, plainCell, norefL, PV.scalar, scalarL, PV.cells, PV.solid, PV.one, PV.free, freeL, fillP, splice, Nat.reduceAdd, Nat.reduceMul, Nat.reduceSub, Nat.reduceLeDiff, Nat.reduceLT, Int.reduceToNat, Int.reduceEq, Int.reduceLT, Int.reduceLE, Int.reduceNeg, E0_vc, vaN, PV.avoid, avoidL, Nat.reduceGT, W30, D30, fnH, gd_node, nodeP, List.length_map, Int.toNat_natCast, hi', hblen, h1, RB0]
  have hs := hset true (by rw [stepH, if_pos h1])
  simp only [splice, List.length_cons, List.length_nil, Nat.reduceAdd, Nat.zero_add] at hs
  refine ⟨by omega, by omega, hi, by unfold inI64; omega, i + 1, hi, by show _ - (i + 1) < _ - i; omega, ?_⟩
  simp only [RG0, RG1, Nat.reduceAdd, ltL, PV.lt, Blk.lt, Nat.reduceLT, Nat.reduceLeDiff, Wk_rfl, ltL_vI, wk_sl, hs, fnH, lt_histC, lt_finC, lt_bC]
  rfl
 by_cases h2 : (h.cond.getD i noNode).op = 2
 ·simp -implicitDefEqProofs (maxSteps := 2000000) only [R0, R1, R2, R3, R4, R5, R6, R7, R8, R9, R10, R11, R12, R13, R14, R15, R16, PV.strip, stripL, PV.noref, ri, feedL, feeds, Nat.reduceBEq, Array.toList, ↓reduceIte, forall_const, implies_true, Nat.reduceEqDiff, reduceCtorEq, alP, bxP, bsP, ifP, quiet, riD, bs_l, PV.isRef, plainCell, norefL, PV.scalar, scalarL, PV.cells, PV.solid, PV.one, PV.free, freeL, fillP, splice, Nat.reduceAdd, Nat.reduceMul, Nat.reduceSub, Nat.reduceLeDiff, Nat.reduceLT, Int.reduceToNat, Int.reduceEq, Int.reduceLT, Int.reduceLE, Int.reduceNeg, E0_vc, vaN, PV.avoid, avoidL, Nat.reduceGT, W30, D30, fnH, gd_node, nodeP, List.length_map, Int.toNat_natCast, hi', hblen, h2, hC, plain_histC, plain_finC, strip_histC, strip_finC, RB0]
  have hs := hset (decide (valR h.refs f.v (h.cond.getD i noNode).ref = (h.cond.getD i noNode).val)) (by rw [stepH, if_neg h1, if_pos h2])
  simp only [splice, List.length_cons, List.length_nil, Nat.reduceAdd, Nat.zero_add] at hs
  refine ⟨by omega, .inr ⟨D30_tame, rfl⟩, hl, by omega, hi, by unfold inI64; omega, i + 1, hi, by show _ - (i + 1) < _ - i; omega, ?_⟩
  simp only [RG0, RG1, Nat.reduceAdd, ltL, PV.lt, Blk.lt, Nat.reduceLT, Nat.reduceLeDiff, Wk_rfl, ltL_vI, wk_sl, hs, fnH, lt_histC, lt_finC, lt_bC]
  rfl
 by_cases h3 : (h.cond.getD i noNode).op = 3
 ·obtain ⟨a0, a1⟩ := hwf.1 h3
  have hga := hget (h.cond.getD i noNode).a.toNat (by omega)
  simp -implicitDefEqProofs (maxSteps := 2000000) only [R0, R1, R2, R3, R4, R5, R6, R7, R8, R9, R10, R11, R12, R13, R14, R15, R16, PV.strip, stripL, PV.noref, ri, feedL, feeds, Nat.reduceBEq, Array.toList, ↓reduceIte, forall_const, implies_true, Nat.reduceEqDiff, reduceCtorEq, alP, bxP, bsP, ifP, quiet, riD, bs_l, PV.isRef, plainCell, norefL, PV.scalar, scalarL, PV.cells, PV.solid, PV.one, PV.free, freeL, fillP, splice, Nat.reduceAdd, Nat.reduceMul, Nat.reduceSub, Nat.reduceLeDiff, Nat.reduceLT, Int.reduceToNat, Int.reduceEq, Int.reduceLT, Int.reduceLE, Int.reduceNeg, E0_vc, vaN, PV.avoid, avoidL, Nat.reduceGT, W30, D30, fnH, gd_node, nodeP, List.length_map, Int.toNat_natCast, hi', hblen, h3, hga, RB0]
  have hs := hset (!(runH (valR h.refs f.v) (List.take i h.cond) []).getD (h.cond.getD i noNode).a.toNat false) (by rw [stepH, if_neg h1, if_neg h2, if_pos h3])
  simp only [splice, List.length_cons, List.length_nil, Nat.reduceAdd, Nat.zero_add] at hs
  refine ⟨by omega, ⟨by omega, by omega⟩, by omega, by omega, hi, by unfold inI64; omega, i + 1, hi, by show _ - (i + 1) < _ - i; omega, ?_⟩
  simp only [RG0, RG1, Nat.reduceAdd, ltL, PV.lt, Blk.lt, Nat.reduceLT, Nat.reduceLeDiff, Wk_rfl, ltL_vI, wk_sl, hs, fnH, lt_histC, lt_finC, lt_bC]
  rfl
 have h45 : (h.cond.getD i noNode).op = 4 ∨ (h.cond.getD i noNode).op = 5 := by
  apply Decidable.byContradiction; intro hn
  rw [foX h1 h2 h3 (fun e => hn (.inl e)) (fun e => hn (.inr e))] at hfo
  cases hfo
 obtain ⟨⟨a0, a1⟩, b0, b1⟩ := hwf.2 h45
 have hga := hget (h.cond.getD i noNode).a.toNat (by omega)
 have hgb := hget (h.cond.getD i noNode).b.toNat (by omega)
 by_cases h4 : (h.cond.getD i noNode).op = 4
 ·simp -implicitDefEqProofs (maxSteps := 2000000) only [R0, R1, R2, R3, R4, R5, R6, R7, R8, R9, R10, R11, R12, R13, R14, R15, R16, PV.strip, stripL, PV.noref, ri, feedL, feeds, Nat.reduceBEq, Array.toList, ↓reduceIte, forall_const, implies_true, Nat.reduceEqDiff, reduceCtorEq, alP, bxP, bsP, ifP, quiet, riD, bs_l, PV.isRef, plainCell, norefL, PV.scalar, scalarL, PV.cells, PV.solid, PV.one, PV.free, freeL, fillP, splice, Nat.reduceAdd, Nat.reduceMul, Nat.reduceSub, Nat.reduceLeDiff, Nat.reduceLT, Int.reduceToNat, Int.reduceEq, Int.reduceLT, Int.reduceLE, Int.reduceNeg, E0_vc, vaN, PV.avoid, avoidL, Nat.reduceGT, W30, D30, fnH, gd_node, nodeP, List.length_map, Int.toNat_natCast, hi', hblen, h4, hga, hgb, RB0]
  have hs := hset ((runH (valR h.refs f.v) (List.take i h.cond) []).getD (h.cond.getD i noNode).a.toNat false && (runH (valR h.refs f.v) (List.take i h.cond) []).getD (h.cond.getD i noNode).b.toNat false) (by rw [stepH, if_neg h1, if_neg h2, if_neg h3, if_pos h4])
  simp only [splice, List.length_cons, List.length_nil, Nat.reduceAdd, Nat.zero_add] at hs
  refine ⟨by omega, ⟨by omega, by omega⟩, by omega, fun _ => ⟨by omega, by omega⟩, fun _ => by omega, by omega, hi, by unfold inI64; omega, i + 1, hi, by show _ - (i + 1) < _ - i; omega, ?_⟩
  simp only [RG0, RG1, Nat.reduceAdd, ltL, PV.lt, Blk.lt, Nat.reduceLT, Nat.reduceLeDiff, Wk_rfl, ltL_vI, wk_sl, hs, fnH, lt_histC, lt_finC, lt_bC]
  rfl
 have h5 : (h.cond.getD i noNode).op = 5 := h45.resolve_left h4
 simp -implicitDefEqProofs (maxSteps := 2000000) only [R0, R1, R2, R3, R4, R5, R6, R7, R8, R9, R10, R11, R12, R13, R14, R15, R16, PV.strip, stripL, PV.noref, ri, feedL, feeds, Nat.reduceBEq, Array.toList, ↓reduceIte, forall_const, implies_true, Nat.reduceEqDiff, reduceCtorEq, alP, bxP, bsP, ifP, quiet, riD, bs_l, PV.isRef, plainCell, norefL, PV.scalar, scalarL, PV.cells, PV.solid, PV.one, PV.free, freeL, fillP, splice, Nat.reduceAdd, Nat.reduceMul, Nat.reduceSub, Nat.reduceLeDiff, Nat.reduceLT, Int.reduceToNat, Int.reduceEq, Int.reduceLT, Int.reduceLE, Int.reduceNeg, E0_vc, vaN, PV.avoid, avoidL, Nat.reduceGT, W30, D30, fnH, gd_node, nodeP, List.length_map, Int.toNat_natCast, hi', hblen, h5, hga, hgb, RB0]
 have hs := hset ((runH (valR h.refs f.v) (List.take i h.cond) []).getD (h.cond.getD i noNode).a.toNat false || (runH (valR h.refs f.v) (List.take i h.cond) []).getD (h.cond.getD i noNode).b.toNat false) (by rw [stepH, if_neg h1, if_neg h2, if_neg h3, if_neg h4])
 simp only [splice, List.length_cons, List.length_nil, Nat.reduceAdd, Nat.zero_add] at hs
 refine ⟨by omega, ⟨by omega, by omega⟩, by omega, fun _ => ⟨by omega, by omega⟩, fun _ => by omega, by omega, hi, by unfold inI64; omega, i + 1, hi, by show _ - (i + 1) < _ - i; omega, ?_⟩
 simp only [RG0, RG1, Nat.reduceAdd, ltL, PV.lt, Blk.lt, Nat.reduceLT, Nat.reduceLeDiff, Wk_rfl, ltL_vI, wk_sl, hs, fnH, lt_histC, lt_finC, lt_bC]
 rfl
end Go.Ve.H
end
section
set_option maxRecDepth 10000
set_option maxHeartbeats 8000000
namespace Go.Ve.H
open Go Go.Proofs Go.Ve
def onhf (g : Hist → Fin → List Prop × PV) : List PV → Option (List Prop × PV)
 | [p, q] => match histD p, finD q with
  | some h, some f => some (g h f)
  | _, _ => none
 | _ => none
theorem onhf_inv {g : Hist → Fin → List Prop × PV} {args : List PV} {x : List Prop × PV} (h : onhf g args = some x) : ∃ p a f, args = [p, finP f] ∧ IsH p a ∧ x = g a f := by
 unfold onhf at h
 split at h
 ·split at h
  ·rename_i h1 h2
   injection h with h
   exact ⟨_, _, _, by rw [finD_inv h2], histD_inv h1, h.symm⟩
  ·cases h
 ·cases h
theorem onhf_P (g : Hist → Fin → List Prop × PV) {n : ByteArray} {q : Int} {r : List Ref} {s : List Row} {c : List Node} {j1 j2 j3 : Nat} (o1 o2 o3 : Bool) (h1 : j1 = 2 ∨ r = []) (h2 : j2 = 50 ∨ s = []) (h3 : j3 = 6 ∨ c = []) (f : Fin) :
  onhf g [.agg [vS n, vI q, .sl j1 (r.map refP) o1, .sl j2 (s.map rowP) o2, .sl j3 (c.map nodeP) o3], .agg (vI f.n :: f.v.map vI)] = some (g ⟨n, q, r, s, c⟩ f) := by
 show (match histD _, finD (finP f) with | some h, some f => some (g h f) | _, _ => none) = _
 rw [histD_of _ _ _ h1 h2 h3, finD_P]
def hldB (h : Hist) (f : Fin) : Bool := decide (checkC h.cond = 0) && holdsC (valR h.refs f.v) h.cond
def hHoldsF := onhf fun h f => ([szC h.cond, h.refs.length ≤ 48], vT (hldB h f))
def D14 : FuncId → Option CB
 | 30 => some (.con (.gen pHoldsT pHoldsT_mono))
 | 31 => some (.fn hHoldsCF)
 | _ => none
theorem D14_ok : AllB E0 D14 := fun g c h => by
 unfold D14 at h
 split at h <;> simp at h <;> subst h
 ·exact pHolds_ok
 ·exact hHoldsC_ok
def W14 := And.intro @Tryz.results14 (And.intro @fa27_4 (And.intro @ag25 (And.intro @sz25 (And.intro @zd25 (And.intro @pHoldsE (@hHoldsCE))))))
theorem hHolds_ok : Sound Tryz.prog G0 14 (conT (CB.fn hHoldsF).toCon) := by
 refine fn_of D14_ok mixed true Tryz.func14 (by decide) rfl _ ?_
 intro args ps r hq hp
 obtain ⟨p, a, f, rfl, ha, hx⟩ := onhf_inv hq
 obtain ⟨rfl, rfl⟩ := Prod.mk.inj hx
 have hz := hp (szC a.cond) (by simp)
 have hl := hp (a.refs.length ≤ 48) (by simp)
 refine ⟨by simp only [norefL, nr_hist ha]; simp [finP, PV.noref, norefL, norefL_eq], ?_⟩
 simp only [awpBFn, Tryz.ntmps14, List.length_cons, List.length_nil, Nat.reduceAdd, Nat.reduceSub, List.replicate_succ, List.replicate_zero, List.cons_append, List.nil_append, List.map_cons, List.map_nil]
 obtain ⟨j1, o1, j2, o2, j3, o3, rfl, k1, k2, k3⟩ := ha
 simp -implicitDefEqProofs (maxSteps := 2000000) only [R0, R1, R2, R3, R4, R5, R6, R7, R8, R9, R10, R11, R12, R13, R14, R15, R16, PV.strip, stripL, PV.noref, ri, feedL, feeds, Nat.reduceBEq, Array.toList, ↓reduceIte, forall_const, implies_true, Nat.reduceEqDiff, reduceCtorEq, alP, bxP, bsP, ifP, quiet, riD, bs_l, PV.isRef, plainCell, norefL, PV.scalar, scalarL, PV.cells, PV.solid, PV.one, PV.free, freeL, fillP, splice, Nat.reduceAdd, Nat.reduceMul, Nat.reduceSub, Nat.reduceLeDiff, Nat.reduceLT, Int.reduceToNat, Int.reduceEq, Int.reduceLT, Int.reduceLE, Int.reduceNeg, E0_vc, vaN, PV.avoid, avoidL, Nat.reduceGT, W14, D14, finP, RB0]
 refine ⟨a, j1, j2, j3, (o1, o2, o3), f, rfl, k1, k3, hz, hl, rfl, fun X => ?_⟩
 by_cases hck : checkC a.cond = 0
 ·simp -implicitDefEqProofs (maxSteps := 2000000) only [R0, R1, R2, R3, R4, R5, R6, R7, R8, R9, R10, R11, R12, R13, R14, R15, R16, PV.strip, stripL, PV.noref, ri, feedL, feeds, Nat.reduceBEq, Array.toList, ↓reduceIte, forall_const, implies_true, Nat.reduceEqDiff, reduceCtorEq, alP, bxP, bsP, ifP, quiet, riD, bs_l, PV.isRef, plainCell, norefL, PV.scalar, scalarL, PV.cells, PV.solid, PV.one, PV.free, freeL, fillP, splice, Nat.reduceAdd, Nat.reduceMul, Nat.reduceSub, Nat.reduceLeDiff, Nat.reduceLT, Int.reduceToNat, Int.reduceEq, Int.reduceLT, Int.reduceLE, Int.reduceNeg, E0_vc, vaN, PV.avoid, avoidL, Nat.reduceGT, W14, D14, hldR, hldB, hck, RB0]
 ·simp -implicitDefEqProofs (maxSteps := 2000000) only [R0, R1, R2, R3, R4, R5, R6, R7, R8, R9, R10, R11, R12, R13, R14, R15, R16, PV.strip, stripL, PV.noref, ri, feedL, feeds, Nat.reduceBEq, Array.toList, ↓reduceIte, forall_const, implies_true, Nat.reduceEqDiff, reduceCtorEq, alP, bxP, bsP, ifP, quiet, riD, bs_l, PV.isRef, plainCell, norefL, PV.scalar, scalarL, PV.cells, PV.solid, PV.one, PV.free, freeL, fillP, splice, Nat.reduceAdd, Nat.reduceMul, Nat.reduceSub, Nat.reduceLeDiff, Nat.reduceLT, Int.reduceToNat, Int.reduceEq, Int.reduceLT, Int.reduceLE, Int.reduceNeg, E0_vc, vaN, PV.avoid, avoidL, Nat.reduceGT, W14, D14, hldR, hldB, hck, RB0]
end Go.Ve.H
end
section
set_option maxRecDepth 10000
set_option maxHeartbeats 8000000
namespace Go.Ve.H
open Go Go.Proofs Go.Ve
def rHoldsF : List PV → Option (List Prop × PV)
 | [p, q, s] => match slD 6 nodeD p, slD 2 refD q, slD 1 intD s with
  | some c, some l, some v => some ([szC c, l.length ≤ 1099511627776, v.length ≤ 1099511627776], hldR (valR l v) c)
  | _, _, _ => none
 | _ => none
theorem rHoldsF_inv {args : List PV} {x : List Prop × PV} (h : rHoldsF args = some x) : ∃ j3 o3 c j o l j' o' v, args = [.sl j3 (c.map nodeP) o3, .sl j (l.map refP) o, .sl j' (v.map vI) o'] ∧ (j3 = 6 ∨ c = []) ∧ (j = 2 ∨ l = []) ∧ (j' = 1 ∨ v = []) ∧ x = ([szC c, l.length ≤ 1099511627776, v.length ≤ 1099511627776], hldR (valR l v) c) := by
 unfold rHoldsF at h
 split at h
 ·split at h
  ·rename_i f g k h1 h2 h3
   injection h with h
   obtain ⟨j3, o3, rfl, hj3⟩ := slD_inv (fun _ _ => nodeD_inv) h1
   obtain ⟨j, o, rfl, hj⟩ := slD_inv (fun _ _ => refD_inv) h2
   obtain ⟨j', o', rfl, hj'⟩ := slD_inv (fun _ _ => intD_inv) h3
   exact ⟨j3, o3, f, j, o, g, j', o', k, rfl, hj3, hj, hj', h.symm⟩
  ·cases h
 ·cases h
theorem rHoldsE {j3 j j' : Nat} {o3 o o' : Bool} {c : List Node} {l : List Ref} {v : List Int} (hj3 : j3 = 6 ∨ c = []) (hj : j = 2 ∨ l = []) (hj' : j' = 1 ∨ v = []) : rHoldsF [.sl j3 (c.map nodeP) o3, .sl j (l.map refP) o, .sl j' (v.map vI) o'] = some ([szC c, l.length ≤ 1099511627776, v.length ≤ 1099511627776], hldR (valR l v) c) := by
 show (match slD 6 nodeD (.sl j3 (c.map nodeP) o3), slD 2 refD (.sl j (l.map refP) o), slD 1 intD (.sl j' (v.map vI) o') with | some c, some l, some v => some ([szC c, l.length ≤ 1099511627776, v.length ≤ 1099511627776], hldR (valR l v) c) | _, _, _ => none) = _
 rw [slD_of nodeD_P hj3, slD_of refD_P hj, slD_of intD_P hj']
def vC (bs : List Bool) (cap : Nat) : List PV := bs.map vT ++ List.replicate (cap - bs.length) .junk
theorem vC_len {bs : List Bool} {cap : Nat} (h : bs.length ≤ cap) : (vC bs cap).length = cap := by
 rw [vC, List.length_append, List.length_map, List.length_replicate]; omega
theorem vC_get {bs : List Bool} {cap a : Nat} (h : a < bs.length) (d : PV) : (vC bs cap).getD a d = vT (bs.getD a false) := by
 rw [vC, List.getD_eq_getElem?_getD, List.getElem?_append_left (by rw [List.length_map]; exact h), List.getElem?_map, List.getD_eq_getElem?_getD, List.getElem?_eq_getElem h]; rfl
theorem vC_put {bs : List Bool} {k cap : Nat} (hk : k = bs.length) (b : Bool) (n : Nat) : padded (List.take k (vC bs cap) ++ stripL (List.flatMap PV.cells [vT b])) n = vC (bs ++ [b]) n := by
 subst hk
 rw [vC, List.take_left' (List.length_map ..), vC]
 show padded (bs.map vT ++ [vT b]) n = _
 rw [padded, List.map_append]; simp
theorem vC_new (b : Bool) (n : Nat) : padded (stripL (List.flatMap PV.cells [vT b])) n = vC [b] n := rfl
theorem lt_junk (n m : Nat) : ltL n (List.replicate m .junk) = true := by
 induction m with
 | zero => rfl
 | succ m ih => rw [List.replicate_succ, ltL, ih]; rfl
theorem lt_vC (n : Nat) (bs : List Bool) (cap : Nat) : ltL n (vC bs cap) = true := by
 rw [vC, ltL_app, lt_vTs, lt_junk]; rfl
theorem avoid_two (n : Nat) : ∀ a b : List PV, avoidL n (a ++ b) = (avoidL n a && avoidL n b)
 | [], b => rfl
 | x :: a, b => by simp only [List.cons_append, avoidL, avoid_two n a b, Bool.and_assoc]
theorem avoid_vTs (n : Nat) : ∀ bs : List Bool, avoidL n (bs.map vT) = true
 | [] => rfl
 | b :: bs => by rw [List.map_cons, avoidL, avoid_vTs n bs]; rfl
theorem avoid_junk (n m : Nat) : avoidL n (List.replicate m .junk) = true := by
 induction m with
 | zero => rfl
 | succ m ih => rw [List.replicate_succ, avoidL, ih]; rfl
theorem avoid_vC (n : Nat) (bs : List Bool) (cap : Nat) : avoidL n (vC bs cap) = true := by
 rw [vC, avoid_two, avoid_vTs, avoid_junk]; rfl
theorem zOne4 : zOne Tryz.prog 4 = true := by kernel_rfl
structure HdS where
 i : Nat
 cap : Nat
def D33 : FuncId → Option CB
 | 24 => some (.fn rCCheckF)
 | 57 => some (.fn rValF)
 | _ => none
theorem D33_ok : AllB E0 D33 := fun g c h => by
 unfold D33 at h
 split at h <;> simp at h <;> subst h
 ·exact rCCheck_ok
 ·exact rVal_ok
def W33 := And.intro @Tryz.results33 (And.intro @Tryz.underlying25 (And.intro @sz52 (And.intro @zd52 (And.intro @ag52 (And.intro @zp52 (And.intro @fa52_0 (And.intro @ag3 (And.intro @sz3 (And.intro @zd3 (And.intro @fa52_3 (And.intro @ag45 (And.intro @sz45 (And.intro @fa52_4 (And.intro @ag2 (And.intro @sz2 (And.intro @zd2 (And.intro @fa52_1 (And.intro @Tryz.underlying104 (And.intro @sz4 (And.intro @zd4 (And.intro @ag4 (And.intro @fa52_2 (And.intro @zs4 (And.intro @by4 (And.intro @rCCheckE (@rValE))))))))))))))))))))))))))
theorem rHolds_ok : Sound Tryz.prog G0 33 (conT (CB.fn rHoldsF).toCon) := by
 refine fn_frzV (fun _ => [79]) D33_ok mixed true Tryz.func33 (by decide) rfl _ ?_
 intro args ps r hq hp
 obtain ⟨j3, o3, c, j, o, l, j', o', v, rfl, hj3, hj, hj', hx⟩ := rHoldsF_inv hq
 obtain ⟨rfl, rfl⟩ := Prod.mk.inj hx
 have hz := hp (szC c) (by simp)
 have hl := hp (l.length ≤ 1099511627776) (by simp)
 have hv := hp (v.length ≤ 1099511627776) (by simp)
 refine ⟨by simp [norefL, PV.noref, nr_map nr_ref, nr_map nr_node, norefL_eq], ?_⟩
 simp only [awpBFn, Tryz.ntmps33, List.length_cons, List.length_nil, Nat.reduceAdd, Nat.reduceSub, List.replicate_succ, List.replicate_zero, List.cons_append, List.nil_append, List.map_cons, List.map_nil]
 have hE := fun o => rCCheckE (o := o) hj3
 by_cases hck : checkC c = 0
 case neg =>
  simp -implicitDefEqProofs (maxSteps := 2000000) only [R0, R1, R2, R3, R4, R5, R6, R7, R8, R9, R10, R11, R12, R13, R14, R15, R16, PV.strip, stripL, PV.noref, ri, feedL, feeds, Nat.reduceBEq, Array.toList, ↓reduceIte, forall_const, implies_true, Nat.reduceEqDiff, reduceCtorEq, alP, bxP, bsP, ifP, quiet, riD, bs_l, PV.isRef, plainCell, norefL, PV.scalar, scalarL, PV.cells, PV.solid, PV.one, PV.free, freeL, fillP, splice, Nat.reduceAdd, Nat.reduceMul, Nat.reduceSub, Nat.reduceLeDiff, Nat.reduceLT, Int.reduceToNat, Int.reduceEq, Int.reduceLT, Int.reduceLE, Int.reduceNeg, E0_vc, vaN, PV.avoid, avoidL, Nat.reduceGT, W33, D33, List.length_map, hE, hck, hldR, RB0]
  exact ⟨hz, rfl⟩
 have hm := checkC_makes hck
 have hlc := makesC_ne hm
 have hj6 : j3 = 6 := hj3.resolve_right (by intro e; rw [e] at hlc; simp at hlc)
 subst hj6
 simp -implicitDefEqProofs (maxSteps := 2000000) only [R0, R1, R2, R3, R4, R5, R6, R7, R8, R9, R10, R11, R12, R13, R14, R15, R16, PV.strip, stripL, PV.noref, ri, feedL, feeds, Nat.reduceBEq, Array.toList, ↓reduceIte, forall_const, implies_true, Nat.reduceEqDiff, reduceCtorEq, alP, bxP, bsP, ifP, quiet, riD, bs_l, PV.isRef, plainCell, norefL, PV.scalar, scalarL, PV.cells, PV.solid, PV.one, PV.free, freeL, fillP, splice, Nat.reduceAdd, Nat.reduceMul, Nat.reduceSub, Nat.reduceLeDiff, Nat.reduceLT, Int.reduceToNat, Int.reduceEq, Int.reduceLT, Int.reduceLE, Int.reduceNeg, E0_vc, vaN, PV.avoid, avoidL, Nat.reduceGT, W33, D33, List.length_map, hE, hck, RB0]
 refine ⟨hz, ?_⟩
 refine loopB_by (fun x : Option HdS => match x with | none => [.sl 6 (c.map nodeP) false, .sl j (l.map refP) false, .sl j' (v.map vI) false, .junk, .junk, .junk, .junk, .junk, .junk, .sl 0 [] true, vI 0, .junk, .junk, .junk, .junk, .junk, .junk, .junk, .junk, .junk, .junk, .junk, .junk, .junk, .junk, .junk, .junk, .junk, .junk, .junk, .junk, .junk, .junk, .junk, .junk, .junk, .junk, .junk, .junk, .junk, .junk, .junk, .junk, .junk, .junk, .junk, .junk, .junk, .junk, .junk, .junk, .junk, .junk, .junk, .junk, .junk, .junk, .junk, .junk, .junk, .junk, .junk, .junk, .junk, .junk, .junk, .junk, .junk, .junk, .junk, .junk, .junk, .junk, .junk, .junk, .junk, .junk, .junk, .junk, .junk, .junk, .junk, .junk, .junk, .junk, .junk] | some x => [.sl 6 (c.map nodeP) false, .sl j (l.map refP) false, .sl j' (v.map vI) false, .junk, .junk, .junk, .junk, .junk, .junk, .rs 1 1 0 x.i x.cap, vI x.i, .junk, .junk, .junk, .junk, .junk, .junk, .junk, .junk, .junk, .junk, .junk, .junk, .junk, .junk, .junk, .junk, .junk, .junk, .junk, .junk, .junk, .junk, .junk, .junk, .junk, .junk, .junk, .junk, .junk, .junk, .junk, .junk, .junk, .junk, .junk, .junk, .junk, .junk, .junk, .junk, .junk, .junk, .junk, .junk, .junk, .junk, .junk, .junk, .junk, .junk, .junk, .junk, .junk, .junk, .junk, .junk, .junk, .junk, .junk, .junk, .junk, .junk, .junk, .junk, .junk, .junk, .junk, .junk, .junk, .junk, .junk, .junk, .junk, .junk, .junk])
  (fun x => match x with | none => [] | some x => [.live [vI (c.getD 0 noNode).op, vI (c.getD 0 noNode).a, vI (c.getD 0 noNode).b, vI (c.getD 0 noNode).ref.t, vS (c.getD 0 noNode).ref.n, vI (c.getD 0 noNode).val], .live (vC (runH (valR l v) (c.take x.i) []) x.cap)])
  (fun x => match x with | none => True | some x => 0 < x.i ∧ x.i ≤ c.length ∧ x.i ≤ x.cap) (fun x => match x with | none => c.length + 1 | some x => c.length - x.i) none ?_ trivial ?_
 ·simp only [RG0, RG1, Nat.reduceAdd, ltL, PV.lt, Blk.lt, Nat.reduceLT, Nat.reduceLeDiff, Wk_rfl, ltL_vI, wk_sl]
 intro x hP
 have hV := fun (t : Int) (m : ByteArray) => rValE (o := false) (o' := false) hj hj' t m
 cases x with
 | none =>
  have h0 : 0 < c.length := by omega
  have h0' : (0 : Int) < c.length := by omega
  have hi' := h0'
  have hi' := h0'
  have hgo := runH_go (valR l v) h0
  rw [List.take_zero] at hgo
  by_cases h1 : (c.getD 0 noNode).op = 1
  ·have hr := hgo
   rw [stepH, if_pos h1] at hr
   simp -implicitDefEqProofs (maxSteps := 2000000) only [R0, R1, R2, R3, R4, R5, R6, R7, R8, R9, R10, R11, R12, R13, R14, R15, R16, PV.strip, stripL, PV.noref, ri, feedL, feeds, Nat.reduceBEq, Array.toList, ↓reduceIte, forall_const, implies_true, Nat.reduceEqDiff, reduceCtorEq, alP, bxP, bsP, ifP, quiet, riD, bs_l, PV.isRef, plainCell, norefL, PV.scalar, scalarL, PV.cells, PV.solid, PV.one, PV.free, freeL, fillP, splice, Nat.reduceAdd, Nat.reduceMul, Nat.reduceSub, Nat.reduceLeDiff, Nat.reduceLT, Int.reduceToNat, Int.reduceEq, Int.reduceLT, Int.reduceLE, Int.reduceNeg, E0_vc, vaN, PV.avoid, avoidL, Nat.reduceGT, W33, D33, h1, List.getD_nil, List.length_map, Int.toNat_natCast, hi', PV.cells, rg1, gd_node, nodeP, RB0]
   refine ⟨zOne4, by decide, fun cp hcp => ⟨by unfold inI64; omega, some ⟨1, cp⟩, ⟨Nat.zero_lt_one, h0, hcp⟩, by simp only; omega, ?_⟩⟩
   simp only [RG0, RG1, Nat.reduceAdd, ltL, PV.lt, Blk.lt, Nat.reduceLT, Nat.reduceLeDiff, Wk_rfl, ltL_vI, wk_sl, vC_new]
   have hr' : runH (valR l v) (c.take 1) [] = _ := hr
   rw [hr']
   exact ⟨rfl, by simp only [Wk_rfl, runH, List.nil_append]⟩
  by_cases h2 : (c.getD 0 noNode).op = 2
  ·have hr := hgo
   rw [stepH, if_neg h1, if_pos h2] at hr
   simp -implicitDefEqProofs (maxSteps := 2000000) only [R0, R1, R2, R3, R4, R5, R6, R7, R8, R9, R10, R11, R12, R13, R14, R15, R16, PV.strip, stripL, PV.noref, ri, feedL, feeds, Nat.reduceBEq, Array.toList, ↓reduceIte, forall_const, implies_true, Nat.reduceEqDiff, reduceCtorEq, alP, bxP, bsP, ifP, quiet, riD, bs_l, PV.isRef, plainCell, norefL, PV.scalar, scalarL, PV.cells, PV.solid, PV.one, PV.free, freeL, fillP, splice, Nat.reduceAdd, Nat.reduceMul, Nat.reduceSub, Nat.reduceLeDiff, Nat.reduceLT, Int.reduceToNat, Int.reduceEq, Int.reduceLT, Int.reduceLE, Int.reduceNeg, E0_vc, vaN, PV.avoid, avoidL, Nat.reduceGT, W33, D33, h2, hV, List.getD_nil, List.length_map, Int.toNat_natCast, hi', PV.cells, rg1, gd_node, nodeP, RB0]
   refine ⟨.inl (by decide), hl, hv, zOne4, by decide, fun cp hcp => ⟨by unfold inI64; omega, some ⟨1, cp⟩, ⟨Nat.zero_lt_one, h0, hcp⟩, by simp only; omega, ?_⟩⟩
   simp only [RG0, RG1, Nat.reduceAdd, ltL, PV.lt, Blk.lt, Nat.reduceLT, Nat.reduceLeDiff, Wk_rfl, ltL_vI, wk_sl, vC_new]
   have hr' : runH (valR l v) (c.take 1) [] = _ := hr
   rw [hr']
   exact ⟨rfl, by simp only [Wk_rfl, runH, List.nil_append]⟩
  have hwf := makesC_wf hm 0 (c.getD 0 noNode) (by rw [List.getD_eq_getElem?_getD, List.getElem?_eq_getElem h0]; rfl)
  have hfo := makesC_fields hm (c.getD 0 noNode) (by rw [List.getD_eq_getElem?_getD, List.getElem?_eq_getElem h0]; exact List.getElem_mem h0)
  rw [foX h1 h2 (fun e => by have := hwf.1 e; omega) (fun e => by have := hwf.2 (.inl e); omega) (fun e => by have := hwf.2 (.inr e); omega)] at hfo
  cases hfo
 | some x =>
  obtain ⟨i, cap⟩ := x
  have p1 : 0 < i := hP.1
  have p2 : i ≤ c.length := hP.2.1
  have p3 : i ≤ cap := hP.2.2
  have hrl : (runH (valR l v) (c.take i) []).length = i := by rw [runH_len, List.length_take]; simp; omega
  have hvl : (vC (runH (valR l v) (c.take i) []) cap).length = cap := vC_len (by omega)
  have hget := fun a (ha : a < i) d => vC_get (bs := runH (valR l v) (c.take i) []) (cap := cap) (a := a) (by rw [hrl]; exact ha) d
  by_cases hi : i < c.length
  case neg =>
   have hi' : ¬ (i : Int) < c.length := by omega
   simp -implicitDefEqProofs (maxSteps := 2000000) only [R0, R1, R2, R3, R4, R5, R6, R7, R8, R9, R10, R11, R12, R13, R14, R15, R16, PV.strip, stripL, PV.noref, ri, feedL, feeds, Nat.reduceBEq, Array.toList, ↓reduceIte, forall_const, implies_true, Nat.reduceEqDiff, reduceCtorEq, alP, bxP, bsP, ifP, quiet, riD, bs_l, PV.isRef, plainCell, norefL, PV.scalar, scalarL, PV.cells, PV.solid, PV.one, PV.free, freeL, fillP, splice, Nat.reduceAdd, Nat.reduceMul, Nat.reduceSub, Nat.reduceLeDiff, Nat.reduceLT, Int.reduceToNat, Int.reduceEq, Int.reduceLT, Int.reduceLE, Int.reduceNeg, E0_vc, vaN, PV.avoid, avoidL, Nat.reduceGT, W33, D33, hvl, List.length_map, Int.toNat_natCast, hi', PV.cells, rg1, gd_node, nodeP, RB0]
   have e1 : ((i : Int) - 1).toNat = c.length - 1 := by omega
   have e2 : c.take i = c := List.take_of_length_le (by omega)
   rw [e1, hget _ (by omega), e2, hldR, if_pos hck]
   exact ⟨by unfold inI64; omega, by omega, by omega, rfl, rfl⟩
  have hi' : (i : Int) < c.length := by omega
  have hgo := runH_go (valR l v) hi
  have hwf := makesC_wf hm i (c.getD i noNode) (by rw [List.getD_eq_getElem?_getD, List.getElem?_eq_getElem hi]; rfl)
  have hfo := makesC_fields hm (c.getD i noNode) (by rw [List.getD_eq_getElem?_getD, List.getElem?_eq_getElem hi]; exact List.getElem_mem hi)
  by_cases h1 : (c.getD i noNode).op = 1
  ·skip
   have hr := hgo
   rw [stepH, if_pos h1] at hr
   have hp := vC_put (cap := cap) hrl.symm (true)
   simp -implicitDefEqProofs (maxSteps := 2000000) only [R0, R1, R2, R3, R4, R5, R6, R7, R8, R9, R10, R11, R12, R13, R14, R15, R16, PV.strip, stripL, PV.noref, ri, feedL, feeds, Nat.reduceBEq, Array.toList, ↓reduceIte, forall_const, implies_true, Nat.reduceEqDiff, reduceCtorEq, alP, bxP, bsP, ifP, quiet, riD, bs_l, PV.isRef, plainCell, norefL, PV.scalar, scalarL, PV.cells, PV.solid, PV.one, PV.free, freeL, fillP, splice, Nat.reduceAdd, Nat.reduceMul, Nat.reduceSub, Nat.reduceLeDiff, Nat.reduceLT, Int.reduceToNat, Int.reduceEq, Int.reduceLT, Int.reduceLE, Int.reduceNeg, E0_vc, vaN, PV.avoid, avoidL, Nat.reduceGT, W33, D33, h1, hvl, hV, List.length_map, Int.toNat_natCast, hi', PV.cells, rg1, gd_node, nodeP, RB0]
   refine ⟨by omega, zOne4, avoid_vC _ _ _, ⟨rfl, rfl, rfl⟩, by unfold roomy; simp; omega, fun cp hcp => ⟨by unfold inI64; omega, some ⟨i + 1, cp⟩, ⟨by simp only; omega, hi, hcp⟩, by simp only; omega, ?_⟩⟩
   simp only [RG0, RG1, Nat.reduceAdd, ltL, PV.lt, Blk.lt, Nat.reduceLT, Nat.reduceLeDiff, Wk_rfl, ltL_vI, wk_sl, hp, hr, lt_vC] <;> omega
  by_cases h2 : (c.getD i noNode).op = 2
  ·skip
   have hr := hgo
   rw [stepH, if_neg h1, if_pos h2] at hr
   have hp := vC_put (cap := cap) hrl.symm (decide (valR l v (c.getD i noNode).ref = (c.getD i noNode).val))
   simp -implicitDefEqProofs (maxSteps := 2000000) only [R0, R1, R2, R3, R4, R5, R6, R7, R8, R9, R10, R11, R12, R13, R14, R15, R16, PV.strip, stripL, PV.noref, ri, feedL, feeds, Nat.reduceBEq, Array.toList, ↓reduceIte, forall_const, implies_true, Nat.reduceEqDiff, reduceCtorEq, alP, bxP, bsP, ifP, quiet, riD, bs_l, PV.isRef, plainCell, norefL, PV.scalar, scalarL, PV.cells, PV.solid, PV.one, PV.free, freeL, fillP, splice, Nat.reduceAdd, Nat.reduceMul, Nat.reduceSub, Nat.reduceLeDiff, Nat.reduceLT, Int.reduceToNat, Int.reduceEq, Int.reduceLT, Int.reduceLE, Int.reduceNeg, E0_vc, vaN, PV.avoid, avoidL, Nat.reduceGT, W33, D33, h2, hvl, hV, List.length_map, Int.toNat_natCast, hi', PV.cells, rg1, gd_node, nodeP, RB0]
   refine ⟨by omega, .inl (by decide), hl, hv, zOne4, avoid_vC _ _ _, ⟨rfl, rfl, rfl⟩, by unfold roomy; simp; omega, fun cp hcp => ⟨by unfold inI64; omega, some ⟨i + 1, cp⟩, ⟨by simp only; omega, hi, hcp⟩, by simp only; omega, ?_⟩⟩
   simp only [RG0, RG1, Nat.reduceAdd, ltL, PV.lt, Blk.lt, Nat.reduceLT, Nat.reduceLeDiff, Wk_rfl, ltL_vI, wk_sl, hp, hr, lt_vC] <;> omega
  by_cases h3 : (c.getD i noNode).op = 3
  ·obtain ⟨a0, a1⟩ := hwf.1 h3
   have hga := hget (c.getD i noNode).a.toNat (by omega)
   have hr := hgo
   rw [stepH, if_neg h1, if_neg h2, if_pos h3] at hr
   have hp := vC_put (cap := cap) hrl.symm (!(runH (valR l v) (c.take i) []).getD (c.getD i noNode).a.toNat false)
   simp -implicitDefEqProofs (maxSteps := 2000000) only [R0, R1, R2, R3, R4, R5, R6, R7, R8, R9, R10, R11, R12, R13, R14, R15, R16, PV.strip, stripL, PV.noref, ri, feedL, feeds, Nat.reduceBEq, Array.toList, ↓reduceIte, forall_const, implies_true, Nat.reduceEqDiff, reduceCtorEq, alP, bxP, bsP, ifP, quiet, riD, bs_l, PV.isRef, plainCell, norefL, PV.scalar, scalarL, PV.cells, PV.solid, PV.one, PV.free, freeL, fillP, splice, Nat.reduceAdd, Nat.reduceMul, Nat.reduceSub, Nat.reduceLeDiff, Nat.reduceLT, Int.reduceToNat, Int.reduceEq, Int.reduceLT, Int.reduceLE, Int.reduceNeg, E0_vc, vaN, PV.avoid, avoidL, Nat.reduceGT, W33, D33, h3, hvl, hV, hga, List.length_map, Int.toNat_natCast, hi', PV.cells, rg1, gd_node, nodeP, RB0]
   refine ⟨by omega, ⟨by omega, by omega⟩, by omega, zOne4, avoid_vC _ _ _, ⟨rfl, rfl, rfl⟩, by unfold roomy; simp; omega, fun cp hcp => ⟨by unfold inI64; omega, some ⟨i + 1, cp⟩, ⟨by simp only; omega, hi, hcp⟩, by simp only; omega, ?_⟩⟩
   simp only [RG0, RG1, Nat.reduceAdd, ltL, PV.lt, Blk.lt, Nat.reduceLT, Nat.reduceLeDiff, Wk_rfl, ltL_vI, wk_sl, hp, hr, lt_vC] <;> omega
  have h45 : (c.getD i noNode).op = 4 ∨ (c.getD i noNode).op = 5 := by
   apply Decidable.byContradiction; intro hn
   rw [foX h1 h2 h3 (fun e => hn (.inl e)) (fun e => hn (.inr e))] at hfo
   cases hfo
  obtain ⟨⟨a0, a1⟩, b0, b1⟩ := hwf.2 h45
  have hga := hget (c.getD i noNode).a.toNat (by omega)
  have hgb := hget (c.getD i noNode).b.toNat (by omega)
  by_cases h4 : (c.getD i noNode).op = 4
  ·skip
   have hr := hgo
   rw [stepH, if_neg h1, if_neg h2, if_neg h3, if_pos h4] at hr
   have hp := vC_put (cap := cap) hrl.symm ((runH (valR l v) (c.take i) []).getD (c.getD i noNode).a.toNat false && (runH (valR l v) (c.take i) []).getD (c.getD i noNode).b.toNat false)
   simp -implicitDefEqProofs (maxSteps := 2000000) only [R0, R1, R2, R3, R4, R5, R6, R7, R8, R9, R10, R11, R12, R13, R14, R15, R16, PV.strip, stripL, PV.noref, ri, feedL, feeds, Nat.reduceBEq, Array.toList, ↓reduceIte, forall_const, implies_true, Nat.reduceEqDiff, reduceCtorEq, alP, bxP, bsP, ifP, quiet, riD, bs_l, PV.isRef, plainCell, norefL, PV.scalar, scalarL, PV.cells, PV.solid, PV.one, PV.free, freeL, fillP, splice, Nat.reduceAdd, Nat.reduceMul, Nat.reduceSub, Nat.reduceLeDiff, Nat.reduceLT, Int.reduceToNat, Int.reduceEq, Int.reduceLT, Int.reduceLE, Int.reduceNeg, E0_vc, vaN, PV.avoid, avoidL, Nat.reduceGT, W33, D33, h4, hvl, hV, hga, hgb, List.length_map, Int.toNat_natCast, hi', PV.cells, rg1, gd_node, nodeP, RB0]
   refine ⟨by omega, ⟨by omega, by omega⟩, by omega, fun _ => ⟨by omega, by omega⟩, fun _ => by omega, zOne4, avoid_vC _ _ _, ⟨rfl, rfl, rfl⟩, by unfold roomy; simp; omega, fun cp hcp => ⟨by unfold inI64; omega, some ⟨i + 1, cp⟩, ⟨by simp only; omega, hi, hcp⟩, by simp only; omega, ?_⟩⟩
   simp only [RG0, RG1, Nat.reduceAdd, ltL, PV.lt, Blk.lt, Nat.reduceLT, Nat.reduceLeDiff, Wk_rfl, ltL_vI, wk_sl, hp, hr, lt_vC] <;> omega
  have h5 : (c.getD i noNode).op = 5 := h45.resolve_left h4
  have hr := hgo
  rw [stepH, if_neg h1, if_neg h2, if_neg h3, if_neg h4] at hr
  have hp := vC_put (cap := cap) hrl.symm ((runH (valR l v) (c.take i) []).getD (c.getD i noNode).a.toNat false || (runH (valR l v) (c.take i) []).getD (c.getD i noNode).b.toNat false)
  simp -implicitDefEqProofs (maxSteps := 2000000) only [R0, R1, R2, R3, R4, R5, R6, R7, R8, R9, R10, R11, R12, R13, R14, R15, R16, PV.strip, stripL, PV.noref, ri, feedL, feeds, Nat.reduceBEq, Array.toList, ↓reduceIte, forall_const, implies_true, Nat.reduceEqDiff, reduceCtorEq, alP, bxP, bsP, ifP, quiet, riD, bs_l, PV.isRef, plainCell, norefL, PV.scalar, scalarL, PV.cells, PV.solid, PV.one, PV.free, freeL, fillP, splice, Nat.reduceAdd, Nat.reduceMul, Nat.reduceSub, Nat.reduceLeDiff, Nat.reduceLT, Int.reduceToNat, Int.reduceEq, Int.reduceLT, Int.reduceLE, Int.reduceNeg, E0_vc, vaN, PV.avoid, avoidL, Nat.reduceGT, W33, D33, h5, hvl, hV, hga, hgb, List.length_map, Int.toNat_natCast, hi', PV.cells, rg1, gd_node, nodeP, RB0]
  refine ⟨by omega, ⟨by omega, by omega⟩, by omega, fun _ => ⟨by omega, by omega⟩, fun _ => by omega, zOne4, avoid_vC _ _ _, ⟨rfl, rfl, rfl⟩, by unfold roomy; simp; omega, fun cp hcp => ⟨by unfold inI64; omega, some ⟨i + 1, cp⟩, ⟨by simp only; omega, hi, hcp⟩, by simp only; omega, ?_⟩⟩
  simp only [RG0, RG1, Nat.reduceAdd, ltL, PV.lt, Blk.lt, Nat.reduceLT, Nat.reduceLeDiff, Wk_rfl, ltL_vI, wk_sl, hp, hr, lt_vC] <;> omega
end Go.Ve.H
end
section
set_option maxRecDepth 10000
set_option maxHeartbeats 8000000
namespace Go.Ve.H
open Go Go.Proofs Go.Ve
theorem ints_chunks : ∀ l : List Int, chunks 1 (l.map vI) l.length = l.map vI
 | [] => rfl
 | x :: l => by
  have := ints_chunks l
  simp only [List.map_cons, List.length_cons, chunks] at this ⊢
  simp [this]
theorem vals_brw {f : Fin} (h : 0 ≤ f.n ∧ f.n ≤ 48) (p : PV) : (if 1 + (f.n.toNat - 0) ≤ f.v.length + 1 ∧ (List.take (f.n.toNat - 0) (List.map vI f.v)).all plainCell = true then PV.sl 1 (chunks 1 (stripL (List.take (f.n.toNat - 0) (List.map vI f.v))) (f.n.toNat - 0)) false else p) = .sl 1 ((f.v.take f.n.toNat).map vI) false := by
 have hl : (f.v.take f.n.toNat).length = f.n.toNat := by rw [List.length_take, f.hl]; omega
 rw [Nat.sub_zero, ← List.map_take, if_pos ⟨by rw [f.hl]; omega, by rw [List.all_map]; exact List.all_eq_true.2 (fun _ _ => rfl)⟩, strip_vI]
 have := ints_chunks (f.v.take f.n.toNat)
 rw [hl] at this; rw [this]
def wHoldsF := onhf fun h f => ([szC h.cond, h.refs.length ≤ 48, 0 ≤ f.n ∧ f.n ≤ 48 ∧ h.refs.length ≤ f.n], vT (hldB h f))
def D15 : FuncId → Option CB
 | 33 => some (lendC rHoldsF)
 | _ => none
theorem D15_ok : AllB E0 D15 := fun g c h => by
 unfold D15 at h
 split at h <;> simp at h <;> subst h
 ·exact rHolds_ok.lend
def W15 := And.intro @Tryz.results15 (And.intro @fa27_4 (And.intro @ag25 (And.intro @sz25 (And.intro @zd25 (And.intro @fa27_2 (And.intro @ag22 (And.intro @sz22 (And.intro @zd22 (And.intro @fa48_1 (And.intro @fa48_0 (And.intro @ag3 (And.intro @sz3 (And.intro @zd3 (And.intro @Tryz.underlying46 (And.intro @sz2 (And.intro @zd2 (@rHoldsE)))))))))))))))))
theorem wHolds_ok : Sound Tryz.prog G0 15 (conT (CB.fn wHoldsF).toCon) := by
 refine fn_of D15_ok mixed true Tryz.func15 (by decide) rfl _ ?_
 intro args ps r hq hp
 obtain ⟨p, a, f, rfl, ha, hx⟩ := onhf_inv hq
 obtain ⟨rfl, rfl⟩ := Prod.mk.inj hx
 have hz := hp (szC a.cond) (by simp)
 have hl := hp (a.refs.length ≤ 48) (by simp)
 have hn := hp (0 ≤ f.n ∧ f.n ≤ 48 ∧ a.refs.length ≤ f.n) (by simp)
 refine ⟨by simp only [norefL, nr_hist ha]; simp [finP, PV.noref, norefL, norefL_eq], ?_⟩
 simp only [awpBFn, Tryz.ntmps15, List.length_cons, List.length_nil, Nat.reduceAdd, Nat.reduceSub, List.replicate_succ, List.replicate_zero, List.cons_append, List.nil_append, List.map_cons, List.map_nil]
 obtain ⟨j1, o1, j2, o2, j3, o3, rfl, k1, k2, k3⟩ := ha
 simp -implicitDefEqProofs (maxSteps := 2000000) only [R0, R1, R2, R3, R4, R5, R6, R7, R8, R9, R10, R11, R12, R13, R14, R15, R16, PV.strip, stripL, PV.noref, ri, feedL, feeds, Nat.reduceBEq, Array.toList, ↓reduceIte, forall_const, implies_true, Nat.reduceEqDiff, reduceCtorEq, alP, bxP, bsP, ifP, quiet, riD, bs_l, PV.isRef, plainCell, norefL, PV.scalar, scalarL, PV.cells, PV.solid, PV.one, PV.free, freeL, fillP, splice, Nat.reduceAdd, Nat.reduceMul, Nat.reduceSub, Nat.reduceLeDiff, Nat.reduceLT, Int.reduceToNat, Int.reduceEq, Int.reduceLT, Int.reduceLE, Int.reduceNeg, E0_vc, vaN, PV.avoid, avoidL, Nat.reduceGT, W15, D15, finP, RB0]
 have hE := fun o o' o'' => rHoldsE (o3 := o) (o := o') (o' := o'') (v := f.v.take f.n.toNat) k3 k1 (.inl rfl)
 rw [vals_brw ⟨hn.1, hn.2.1⟩, hE]
 by_cases hck : checkC a.cond = 0
 ·simp -implicitDefEqProofs (maxSteps := 2000000) only [R0, R1, R2, R3, R4, R5, R6, R7, R8, R9, R10, R11, R12, R13, R14, R15, R16, PV.strip, stripL, PV.noref, ri, feedL, feeds, Nat.reduceBEq, Array.toList, ↓reduceIte, forall_const, implies_true, Nat.reduceEqDiff, reduceCtorEq, alP, bxP, bsP, ifP, quiet, riD, bs_l, PV.isRef, plainCell, norefL, PV.scalar, scalarL, PV.cells, PV.solid, PV.one, PV.free, freeL, fillP, splice, Nat.reduceAdd, Nat.reduceMul, Nat.reduceSub, Nat.reduceLeDiff, Nat.reduceLT, Int.reduceToNat, Int.reduceEq, Int.reduceLT, Int.reduceLE, Int.reduceNeg, E0_vc, vaN, PV.avoid, avoidL, Nat.reduceGT, W15, D15, hldR, hck, RB0]
  refine ⟨.inl (by decide), by omega, ⟨hn.1, hn.2.1⟩, hz, by omega, by rw [List.length_take, f.hl]; omega, ?_⟩
  have e : valR a.refs (List.take f.n.toNat f.v) = valR a.refs f.v := funext fun r => valR_take _ _ r _ (by omega)
  rw [e, hldB, decide_eq_true hck, Bool.true_and]
 ·simp -implicitDefEqProofs (maxSteps := 2000000) only [R0, R1, R2, R3, R4, R5, R6, R7, R8, R9, R10, R11, R12, R13, R14, R15, R16, PV.strip, stripL, PV.noref, ri, feedL, feeds, Nat.reduceBEq, Array.toList, ↓reduceIte, forall_const, implies_true, Nat.reduceEqDiff, reduceCtorEq, alP, bxP, bsP, ifP, quiet, riD, bs_l, PV.isRef, plainCell, norefL, PV.scalar, scalarL, PV.cells, PV.solid, PV.one, PV.free, freeL, fillP, splice, Nat.reduceAdd, Nat.reduceMul, Nat.reduceSub, Nat.reduceLeDiff, Nat.reduceLT, Int.reduceToNat, Int.reduceEq, Int.reduceLT, Int.reduceLE, Int.reduceNeg, E0_vc, vaN, PV.avoid, avoidL, Nat.reduceGT, W15, D15, hldR, hck, RB0]
  refine ⟨.inl (by decide), by omega, ⟨hn.1, hn.2.1⟩, hz, by omega, by rw [List.length_take, f.hl]; omega, ?_⟩
  rw [hldB, decide_eq_false hck]; rfl
end Go.Ve.H
end
section
set_option maxRecDepth 10000
set_option maxHeartbeats 4000000
namespace Go.Ve.H
open Go Go.Proofs Go.Ve
def itoaB (n : Int) : ByteArray := ⟨(Lib.itoa n).toArray⟩
theorem repL_u64 {F : Fz} : ∀ {l : List Int} {us : List Value}, RepL F [] (l.map fun z => PV.val (.int .u64 z)) us → us = l.map (Value.int .u64)
 | [], _, .nil => rfl
 | z :: l, _, .cons h t => by
  obtain ⟨e, _⟩ := h.val_inv
  rw [List.map_cons, ← repL_u64 t, e]
theorem tab_of {w : World} {F : Fz} (h : GlobOk G0 (fun b => b < w.heap.size) w F) : Lib.TabIs Tryz.prog w "internal/strconv.uint64pow10" .u64 Lib.pow10Tab := by
 obtain ⟨_, us, ⟨T, f, h2⟩, h3, _⟩ := h 1 _ rfl
 have e := repL_u64 h3
 subst e
 unfold Lib.TabIs World.var?
 rw [show Tryz.prog.globalNamed "internal/strconv.uint64pow10" = some 1 by kernel_rfl]
 simp only [Option.bind_some, h2]
def itoaF : List PV → Option (List Prop × PV)
 | [.val (.int .i64 n)] => some ([inI64 n], vS (itoaB n))
 | _ => none
theorem itoaE (n : Int) : itoaF [.val (.int .i64 n)] = some ([inI64 n], vS (itoaB n)) := rfl
theorem itoaF_inv {args : List PV} {ps : List Prop} {r : PV} (h : itoaF args = some (ps, r)) : ∃ n, args = [vI n] ∧ ps = [inI64 n] ∧ r = vS (itoaB n) := by
 unfold itoaF at h
 split at h
 ·rename_i n
  injection h with h
  obtain ⟨rfl, rfl⟩ := Prod.mk.inj h
  exact ⟨n, rfl, rfl, rfl⟩
 ·cases h
theorem arr_of {vs : Array Value} {l : List Value} (h : vs.toList = l) : vs = l.toArray := by rw [← h]
theorem itoa_ok : Sound Tryz.prog G0 37 (conT (CB.fn itoaF).toCon) := by
 refine Sound.lib ⟨_, Tryz.func37, by decide, rfl⟩ _ ?_
 intro args ps r hq hp
 obtain ⟨n, rfl, rfl, rfl⟩ := itoaF_inv hq
 have hn : inI64 n := hp _ (by simp)
 refine ⟨_, rfl, rfl, fun F0 R w vs hF hg hr => ?_⟩
 have hv := arr_of (repL_vals (us := [.int .i64 n]) hr)
 subst hv
 refine (Tryz.strconv_Itoa n hn.1 hn.2 w (tab_of hg)).mono ?_
 rintro e w' ⟨rfl, k, os, rfl⟩
 exact ⟨rfl, Lib.below_grow _ w (Nat.le_refl _) k os⟩
def fmtIF : List PV → Option (List Prop × PV)
 | [.val (.int .i64 n), .val (.int .i64 b)] => some ([inI64 n, b = 10], vS (itoaB n))
 | _ => none
theorem fmtIE (n b : Int) : fmtIF [.val (.int .i64 n), .val (.int .i64 b)] = some ([inI64 n, b = 10], vS (itoaB n)) := rfl
theorem fmtI_ok : Sound Tryz.prog G0 63 (conT (CB.fn fmtIF).toCon) := by
 refine Sound.lib ⟨_, Tryz.func63, by decide, rfl⟩ _ ?_
 intro args ps r hq hp
 unfold fmtIF at hq
 split at hq
 ·rename_i n b
  injection hq with hq
  obtain ⟨rfl, rfl⟩ := Prod.mk.inj hq
  have hn : inI64 n := hp _ (by simp)
  have hb : b = 10 := hp _ (by simp)
  subst hb
  refine ⟨_, rfl, rfl, fun F0 R w vs hF hg hr => ?_⟩
  have hv := arr_of (repL_vals (us := [.int .i64 n, .int .i64 10]) hr)
  subst hv
  refine (Tryz.strconv_FormatInt_10 n hn.1 hn.2 w (tab_of hg)).mono ?_
  rintro e w' ⟨rfl, k, os, rfl⟩
  exact ⟨rfl, Lib.below_grow _ w (Nat.le_refl _) k os⟩
 ·cases hq
def wTextF := itoaF
theorem wTextE (n : Int) : wTextF [.val (.int .i64 n)] = some ([inI64 n], vS (itoaB n)) := rfl
def D40 : FuncId → Option CB
 | 63 => some (.fn fmtIF)
 | _ => none
theorem D40_ok : AllB E0 D40 := fun g c h => by
 unfold D40 at h
 split at h <;> simp at h <;> subst h
 ·exact fmtI_ok
theorem wText_ok : Sound Tryz.prog G0 40 (conT (CB.fn wTextF).toCon) := by
 refine fn_of D40_ok mixed true Tryz.func40 (by decide) rfl _ ?_
 intro args ps r hq hp
 obtain ⟨n, rfl, rfl, rfl⟩ := itoaF_inv hq
 have hn := hp (inI64 n) (by simp)
 refine ⟨rfl, ?_⟩
 simp only [awpBFn, Tryz.ntmps40, List.length_cons, List.length_nil, Nat.reduceAdd, Nat.reduceSub, List.replicate_succ, List.replicate_zero, List.cons_append, List.nil_append, List.map_cons, List.map_nil]
 simp -implicitDefEqProofs (maxSteps := 2000000) only [R0, R1, R2, R3, R4, R5, R6, R7, R8, R9, R10, R11, R12, R13, R14, R15, R16, PV.strip, stripL, PV.noref, ri, feedL, feeds, Nat.reduceBEq, Array.toList, ↓reduceIte, forall_const, implies_true, Nat.reduceEqDiff, reduceCtorEq, alP, bxP, bsP, ifP, quiet, riD, bs_l, PV.isRef, plainCell, norefL, PV.scalar, scalarL, PV.cells, PV.solid, PV.one, PV.free, freeL, fillP, splice, Nat.reduceAdd, Nat.reduceMul, Nat.reduceSub, Nat.reduceLeDiff, Nat.reduceLT, Int.reduceToNat, Int.reduceEq, Int.reduceLT, Int.reduceLE, Int.reduceNeg, E0_vc, vaN, PV.avoid, avoidL, Nat.reduceGT, Tryz.results40, D40, fmtIE]
 exact hn
def decB (u : Nat) : ByteArray := ⟨(Lib.decDigits u).toArray⟩
theorem dec_len : ∀ (k u : Nat), u < 10 ^ (k + 1) → (Lib.decDigits u).length ≤ k + 1
 | 0, u, h => by
  rw [Lib.decDigits, dif_pos (by omega)]; simp
 | k + 1, u, h => by
  rw [Lib.decDigits]
  split
  ·simp
  ·have := dec_len k (u / 10) (by rw [Nat.div_lt_iff_lt_mul (by decide)]; rw [Nat.pow_succ] at h; exact h)
   simp; omega
theorem dig_at : ∀ d : Nat, d < 10 → (⟨#[48, 49, 50, 51, 52, 53, 54, 55, 56, 57, 97, 98, 99, 100, 101, 102]⟩ : ByteArray).extract d (d + 1) = ⟨#[UInt8.ofNat (48 + d)]⟩
 | 0, _ => rfl
 | 1, _ => rfl
 | 2, _ => rfl
 | 3, _ => rfl
 | 4, _ => rfl
 | 5, _ => rfl
 | 6, _ => rfl
 | 7, _ => rfl
 | 8, _ => rfl
 | 9, _ => rfl
 | d + 10, h => by omega
theorem u64_wrap {n : Int} (h0 : 0 ≤ n) (h1 : n < 18446744073709551616) : IntKind.wrap .u64 n = n := by
 have e : IntKind.wrap .u64 n = n % 18446744073709551616 := by unfold IntKind.wrap; simp [IntKind.signed, IntKind.bits]
 omega
def rInF : List PV → Option (List Prop × PV)
 | [.val (.int .u64 u), .val (.int .u64 b)] => some ([0 ≤ u, u < 18446744073709551616, b = 10], vS (decB u.toNat))
 | _ => none
theorem rInE (u b : Int) : rInF [.val (.int .u64 u), .val (.int .u64 b)] = some ([0 ≤ u, u < 18446744073709551616, b = 10], vS (decB u.toNat)) := rfl
theorem rIn_ok : Sound Tryz.prog G0 64 (conT (CB.fn rInF).toCon) := by
 refine fn_of DN_ok mixed true Tryz.func64 (by decide) rfl _ ?_
 intro args ps r hq hp
 unfold rInF at hq
 split at hq
 case h_2 => cases hq
 rename_i u b
 injection hq with hq
 obtain ⟨rfl, rfl⟩ := Prod.mk.inj hq
 have h0 : 0 ≤ u := hp _ (by simp)
 have h1 : u < 18446744073709551616 := hp _ (by simp)
 have hb : b = 10 := hp _ (by simp)
 subst hb
 obtain ⟨U, rfl⟩ := Int.eq_ofNat_of_zero_le h0
 refine ⟨rfl, ?_⟩
 simp only [awpBFn, Tryz.ntmps64, List.length_cons, List.length_nil, Nat.reduceAdd, Nat.reduceSub, List.replicate_succ, List.replicate_zero, List.cons_append, List.nil_append, List.map_cons, List.map_nil]
 simp -implicitDefEqProofs (maxSteps := 2000000) only [R0, R1, R2, R3, R4, R5, R6, R7, R8, R9, R10, R11, R12, R13, R14, R15, R16, PV.strip, stripL, PV.noref, ri, feedL, feeds, Nat.reduceBEq, Array.toList, ↓reduceIte, forall_const, implies_true, Nat.reduceEqDiff, reduceCtorEq, alP, bxP, bsP, ifP, quiet, riD, bs_l, PV.isRef, plainCell, norefL, PV.scalar, scalarL, PV.cells, PV.solid, PV.one, PV.free, freeL, fillP, splice, Nat.reduceAdd, Nat.reduceMul, Nat.reduceSub, Nat.reduceLeDiff, Nat.reduceLT, Int.reduceToNat, Int.reduceEq, Int.reduceLT, Int.reduceLE, Int.reduceNeg, E0_vc, vaN, PV.avoid, avoidL, Nat.reduceGT, Tryz.results64, Tryz.underlying9]
 refine loopB_ov [2, 3, 4, 6, 7, 8, 9, 10, 11, 12, 13, 14, 15, 16, 17, 18, 19, 20, 21, 22, 23, 24, 25, 26, 27] (fun x : Nat × ByteArray => [(0, .val (.int .u64 (x.1 : Int))), (5, vS x.2)]) 0 (fun _ => []) (fun x => x.1 ≤ U ∧ Lib.decDigits U = Lib.decDigits x.1 ++ x.2.data.toList) (fun x => x.1) (U, ⟨#[]⟩) ?_ ?_ ?_
 ·simp only [RG0, RG1, Nat.reduceAdd, ltL, PV.lt, Blk.lt, Nat.reduceLT, Nat.reduceLeDiff, Wk_rfl, ltL_vI]
 ·exact ⟨Nat.le_refl _, by simp⟩
 intro x hP
 obtain ⟨m, s⟩ := x
 have h3 : m ≤ U := hP.1
 have h2 : Lib.decDigits U = Lib.decDigits m ++ s.data.toList := hP.2
 have e1 : (m : Int).tmod 10 = ((m % 10 : Nat) : Int) := rfl
 have e2 : (m : Int).tdiv 10 = ((m / 10 : Nat) : Int) := rfl
 have w1 : IntKind.wrap .u64 (((m % 10 : Nat) : Int) + 1) = ((m % 10 + 1 : Nat) : Int) := u64_wrap (by omega) (by omega)
 have w2 : IntKind.wrap .u64 ((m / 10 : Nat) : Int) = ((m / 10 : Nat) : Int) := u64_wrap (by omega) (by omega)
 have d1 := dig_at (m % 10) (by omega)
 have hs : s.size ≤ 20 := by
  have := dec_len 19 U (by omega)
  rw [h2, List.length_append] at this
  have e : s.data.toList.length = s.size := by rw [Array.length_toList]; rfl
  omega
 simp -implicitDefEqProofs (maxSteps := 2000000) only [R0, R1, R2, R3, R4, R5, R6, R7, R8, R9, R10, R11, R12, R13, R14, R15, R16, PV.strip, stripL, PV.noref, ri, feedL, feeds, Nat.reduceBEq, Array.toList, ↓reduceIte, forall_const, implies_true, Nat.reduceEqDiff, reduceCtorEq, alP, bxP, bsP, ifP, quiet, riD, bs_l, PV.isRef, plainCell, norefL, PV.scalar, scalarL, PV.cells, PV.solid, PV.one, PV.free, freeL, fillP, splice, Nat.reduceAdd, Nat.reduceMul, Nat.reduceSub, Nat.reduceLeDiff, Nat.reduceLT, Int.reduceToNat, Int.reduceEq, Int.reduceLT, Int.reduceLE, Int.reduceNeg, E0_vc, vaN, PV.avoid, avoidL, Nat.reduceGT, Tryz.results64, Tryz.underlying9, e1, e2, w1, w2, d1, Int.toNat_natCast, RB0]
 refine ⟨fun h => ⟨.inl (by decide), ⟨by omega, by omega, ?_⟩, ?_, (m / 10, ⟨#[UInt8.ofNat (48 + m % 10)]⟩ ++ s), ⟨by simp only; omega, ?_⟩, by simp only; omega, ?_⟩, fun h => ?_⟩
 ·show ((m % 10 + 1 : Nat) : Int) ≤ 16
  omega
 ·show 1 + s.size ≤ _
  omega
 ·rw [h2, Lib.decDigits, dif_neg (by omega)]
  simp [ByteArray.data_append]
 ·simp only [RG0, RG1, Nat.reduceAdd, ltL, PV.lt, Blk.lt, Nat.reduceLT, Nat.reduceLeDiff, Wk_rfl, ltL_vI]
 ·have w4 : IntKind.wrap .u64 ((m : Int) + 1) = ((m + 1 : Nat) : Int) := u64_wrap (by omega) (by omega)
  have d2 := dig_at m (by omega)
  simp only [w4, Int.toNat_natCast, d2]
  refine ⟨⟨by omega, by omega, ?_⟩, ?_, ?_⟩
  ·show ((m + 1 : Nat) : Int) ≤ 16
   omega
  ·show 1 + s.size ≤ _
   omega
  ·rw [decB, h2, Lib.decDigits, dif_pos (by omega)]
   congr 2
theorem itoa_neg {n : Int} (h : n < 0) : itoaB n = ⟨#[45]⟩ ++ decB n.natAbs := by
 rw [itoaB, Lib.itoa, if_pos h]
 congr 1
theorem itoa_pos {n : Int} (h : ¬ n < 0) : itoaB n = decB n.toNat := by
 rw [itoaB, Lib.itoa, if_neg h]; rfl
theorem dec_size (u : Nat) (h : u < 18446744073709551616) : (decB u).size ≤ 20 := by
 have := dec_len 19 u (by omega)
 have e : (decB u).size = (Lib.decDigits u).length := by simp [decB, ByteArray.size]
 omega
theorem itoa_size {n : Int} (h : inI64 n) : (itoaB n).size ≤ 21 := by
 obtain ⟨h1, h2⟩ := h
 by_cases hn : n < 0
 ·rw [itoa_neg hn, ByteArray.size_append]
  have := dec_size n.natAbs (by omega)
  show 1 + _ ≤ 21
  omega
 ·rw [itoa_pos hn]
  have := dec_size n.toNat (by omega)
  omega
def rNumF := itoaF
theorem rNumE (n : Int) : rNumF [.val (.int .i64 n)] = some ([inI64 n], vS (itoaB n)) := rfl
def D43 : FuncId → Option CB
 | 64 => some (.fn rInF)
 | _ => none
theorem D43_ok : AllB E0 D43 := fun g c h => by
 unfold D43 at h
 split at h <;> simp at h <;> subst h
 ·exact rIn_ok
theorem rNum_ok : Sound Tryz.prog G0 43 (conT (CB.fn rNumF).toCon) := by
 refine fn_of D43_ok mixed true Tryz.func43 (by decide) rfl _ ?_
 intro args ps r hq hp
 obtain ⟨n, rfl, rfl, rfl⟩ := itoaF_inv hq
 have hn := hp (inI64 n) (by simp)
 obtain ⟨n1, n2⟩ := hn
 refine ⟨rfl, ?_⟩
 simp only [awpBFn, Tryz.ntmps43, List.length_cons, List.length_nil, Nat.reduceAdd, Nat.reduceSub, List.replicate_succ, List.replicate_zero, List.cons_append, List.nil_append, List.map_cons, List.map_nil]
 by_cases h : n < 0
 ·have e1 : IntKind.wrap .u64 n = n + 18446744073709551616 := by
   have e : IntKind.wrap .u64 n = n % 18446744073709551616 := by unfold IntKind.wrap; simp [IntKind.signed, IntKind.bits]
   omega
  have e2 : IntKind.wrap .u64 (0 - (n + 18446744073709551616)) = -n := by
   have e : ∀ m, IntKind.wrap .u64 m = m % 18446744073709551616 := fun m => by unfold IntKind.wrap; simp [IntKind.signed, IntKind.bits]
   rw [e]; omega
  have e3 : (-n).toNat = n.natAbs := by omega
  have e4 := itoa_neg h
  simp -implicitDefEqProofs (maxSteps := 2000000) only [R0, R1, R2, R3, R4, R5, R6, R7, R8, R9, R10, R11, R12, R13, R14, R15, R16, PV.strip, stripL, PV.noref, ri, feedL, feeds, Nat.reduceBEq, Array.toList, ↓reduceIte, forall_const, implies_true, Nat.reduceEqDiff, reduceCtorEq, alP, bxP, bsP, ifP, quiet, riD, bs_l, PV.isRef, plainCell, norefL, PV.scalar, scalarL, PV.cells, PV.solid, PV.one, PV.free, freeL, fillP, splice, Nat.reduceAdd, Nat.reduceMul, Nat.reduceSub, Nat.reduceLeDiff, Nat.reduceLT, Int.reduceToNat, Int.reduceEq, Int.reduceLT, Int.reduceLE, Int.reduceNeg, E0_vc, vaN, PV.avoid, avoidL, Nat.reduceGT, Tryz.results43, Tryz.underlying2, Tryz.underlying116, D43, rInE, h, e1, e2, e3, RB0]
  refine ⟨by omega, by omega, ?_, by rw [e4]⟩
  have := dec_size n.natAbs (by omega)
  show 1 + _ ≤ _
  omega
 ·have e1 : IntKind.wrap .u64 n = n := u64_wrap (by omega) (by omega)
  have e4 := itoa_pos h
  simp -implicitDefEqProofs (maxSteps := 2000000) only [R0, R1, R2, R3, R4, R5, R6, R7, R8, R9, R10, R11, R12, R13, R14, R15, R16, PV.strip, stripL, PV.noref, ri, feedL, feeds, Nat.reduceBEq, Array.toList, ↓reduceIte, forall_const, implies_true, Nat.reduceEqDiff, reduceCtorEq, alP, bxP, bsP, ifP, quiet, riD, bs_l, PV.isRef, plainCell, norefL, PV.scalar, scalarL, PV.cells, PV.solid, PV.one, PV.free, freeL, fillP, splice, Nat.reduceAdd, Nat.reduceMul, Nat.reduceSub, Nat.reduceLeDiff, Nat.reduceLT, Int.reduceToNat, Int.reduceEq, Int.reduceLT, Int.reduceLE, Int.reduceNeg, E0_vc, vaN, PV.avoid, avoidL, Nat.reduceGT, Tryz.results43, Tryz.underlying2, Tryz.underlying116, D43, rInE, h, e1, RB0]
  exact ⟨by omega, by omega, by rw [e4]⟩
def refB (r : Ref) : ByteArray := if r.t < 0 then r.n else itoaB r.t ++ ⟨#[58]⟩ ++ r.n
def refF (f : Ref → List Prop × PV) : List PV → Option (List Prop × PV)
 | [p] => match refD p with
  | some a => some (f a)
  | none => none
 | _ => none
theorem refF_inv {f : Ref → List Prop × PV} {args : List PV} {x : List Prop × PV} (h : refF f args = some x) : ∃ a : Ref, args = [.agg [vI a.t, vS a.n]] ∧ x = f a := by
 unfold refF at h
 split at h
 ·split at h
  ·rename_i h1
   injection h with h
   exact ⟨_, by rw [refD_inv h1]; rfl, h.symm⟩
  ·cases h
 ·cases h
def refTF := refF fun r => ([inI64 r.t, r.n.size ≤ 1099511627776], vS (refB r))
theorem refTE (t : Int) (n : ByteArray) : refTF [.agg [vI t, vS n]] = some ([inI64 t, n.size ≤ 1099511627776], vS (refB ⟨t, n⟩)) := rfl
def D79 : FuncId → Option CB
 | 37 => some (.fn itoaF)
 | _ => none
theorem D79_ok : AllB E0 D79 := fun g c h => by
 unfold D79 at h
 split at h <;> simp at h <;> subst h
 ·exact itoa_ok
theorem refT_ok : Sound Tryz.prog G0 79 (conT (CB.fn refTF).toCon) := by
 refine fn_of D79_ok mixed true Tryz.func79 (by decide) rfl _ ?_
 intro args ps r hq hp
 obtain ⟨r, rfl, hx⟩ := refF_inv hq
 obtain ⟨rfl, rfl⟩ := Prod.mk.inj hx
 have ht := hp (inI64 r.t) (by simp)
 have hz := hp (r.n.size ≤ 1099511627776) (by simp)
 have hs := itoa_size ht
 refine ⟨rfl, ?_⟩
 simp only [awpBFn, Tryz.ntmps79, List.length_cons, List.length_nil, Nat.reduceAdd, Nat.reduceSub, List.replicate_succ, List.replicate_zero, List.cons_append, List.nil_append, List.map_cons, List.map_nil]
 by_cases h : r.t < 0
 ·simp -implicitDefEqProofs (maxSteps := 2000000) only [R0, R1, R2, R3, R4, R5, R6, R7, R8, R9, R10, R11, R12, R13, R14, R15, R16, PV.strip, stripL, PV.noref, ri, feedL, feeds, Nat.reduceBEq, Array.toList, ↓reduceIte, forall_const, implies_true, Nat.reduceEqDiff, reduceCtorEq, alP, bxP, bsP, ifP, quiet, riD, bs_l, PV.isRef, plainCell, norefL, PV.scalar, scalarL, PV.cells, PV.solid, PV.one, PV.free, freeL, fillP, splice, Nat.reduceAdd, Nat.reduceMul, Nat.reduceSub, Nat.reduceLeDiff, Nat.reduceLT, Int.reduceToNat, Int.reduceEq, Int.reduceLT, Int.reduceLE, Int.reduceNeg, E0_vc, vaN, PV.avoid, avoidL, Nat.reduceGT, Tryz.results79, fa45_0, ag3, sz3, zd3, fa45_1, ag9, sz9, zd9, D79, itoaE, h, refB, RB0]
 ·simp -implicitDefEqProofs (maxSteps := 2000000) only [R0, R1, R2, R3, R4, R5, R6, R7, R8, R9, R10, R11, R12, R13, R14, R15, R16, PV.strip, stripL, PV.noref, ri, feedL, feeds, Nat.reduceBEq, Array.toList, ↓reduceIte, forall_const, implies_true, Nat.reduceEqDiff, reduceCtorEq, alP, bxP, bsP, ifP, quiet, riD, bs_l, PV.isRef, plainCell, norefL, PV.scalar, scalarL, PV.cells, PV.solid, PV.one, PV.free, freeL, fillP, splice, Nat.reduceAdd, Nat.reduceMul, Nat.reduceSub, Nat.reduceLeDiff, Nat.reduceLT, Int.reduceToNat, Int.reduceEq, Int.reduceLT, Int.reduceLE, Int.reduceNeg, E0_vc, vaN, PV.avoid, avoidL, Nat.reduceGT, Tryz.results79, fa45_0, ag3, sz3, zd3, fa45_1, ag9, sz9, zd9, D79, itoaE, h, refB, RB0]
  refine ⟨.inl (by decide), ht, ?_, ?_⟩
  ·show _ + 1 ≤ _
   omega
  ·rw [ByteArray.size_append]
   show _ + 1 + _ ≤ _
   omega
def rName10F := refF fun r => ([inI64 r.t, -1 ≤ r.t, r.n.size ≤ 1099511627776], vS (refB r))
theorem rName10E (t : Int) (n : ByteArray) : rName10F [.agg [vI t, vS n]] = some ([inI64 t, -1 ≤ t, n.size ≤ 1099511627776], vS (refB ⟨t, n⟩)) := rfl
def D65 : FuncId → Option CB
 | 43 => some (.fn rNumF)
 | _ => none
theorem D65_ok : AllB E0 D65 := fun g c h => by
 unfold D65 at h
 split at h <;> simp at h <;> subst h
 ·exact rNum_ok
theorem rName10_ok : Sound Tryz.prog G0 65 (conT (CB.fn rName10F).toCon) := by
 refine fn_of D65_ok mixed true Tryz.func65 (by decide) rfl _ ?_
 intro args ps r hq hp
 obtain ⟨r, rfl, hx⟩ := refF_inv hq
 obtain ⟨rfl, rfl⟩ := Prod.mk.inj hx
 have ht := hp (inI64 r.t) (by simp)
 have h1 := hp (-1 ≤ r.t) (by simp)
 have hz := hp (r.n.size ≤ 1099511627776) (by simp)
 have hs := itoa_size ht
 refine ⟨rfl, ?_⟩
 simp only [awpBFn, Tryz.ntmps65, List.length_cons, List.length_nil, Nat.reduceAdd, Nat.reduceSub, List.replicate_succ, List.replicate_zero, List.cons_append, List.nil_append, List.map_cons, List.map_nil]
 by_cases h : r.t = -1
 ·simp -implicitDefEqProofs (maxSteps := 2000000) only [R0, R1, R2, R3, R4, R5, R6, R7, R8, R9, R10, R11, R12, R13, R14, R15, R16, PV.strip, stripL, PV.noref, ri, feedL, feeds, Nat.reduceBEq, Array.toList, ↓reduceIte, forall_const, implies_true, Nat.reduceEqDiff, reduceCtorEq, alP, bxP, bsP, ifP, quiet, riD, bs_l, PV.isRef, plainCell, norefL, PV.scalar, scalarL, PV.cells, PV.solid, PV.one, PV.free, freeL, fillP, splice, Nat.reduceAdd, Nat.reduceMul, Nat.reduceSub, Nat.reduceLeDiff, Nat.reduceLT, Int.reduceToNat, Int.reduceEq, Int.reduceLT, Int.reduceLE, Int.reduceNeg, E0_vc, vaN, PV.avoid, avoidL, Nat.reduceGT, Tryz.results65, fa45_0, ag3, sz3, zd3, fa45_1, ag9, sz9, zd9, D65, rNumE, h, refB, RB0]
 ·have hn : ¬ r.t < 0 := by omega
  simp -implicitDefEqProofs (maxSteps := 2000000) only [R0, R1, R2, R3, R4, R5, R6, R7, R8, R9, R10, R11, R12, R13, R14, R15, R16, PV.strip, stripL, PV.noref, ri, feedL, feeds, Nat.reduceBEq, Array.toList, ↓reduceIte, forall_const, implies_true, Nat.reduceEqDiff, reduceCtorEq, alP, bxP, bsP, ifP, quiet, riD, bs_l, PV.isRef, plainCell, norefL, PV.scalar, scalarL, PV.cells, PV.solid, PV.one, PV.free, freeL, fillP, splice, Nat.reduceAdd, Nat.reduceMul, Nat.reduceSub, Nat.reduceLeDiff, Nat.reduceLT, Int.reduceToNat, Int.reduceEq, Int.reduceLT, Int.reduceLE, Int.reduceNeg, E0_vc, vaN, PV.avoid, avoidL, Nat.reduceGT, Tryz.results65, fa45_0, ag3, sz3, zd3, fa45_1, ag9, sz9, zd9, D65, rNumE, h, refB, RB0]
  refine ⟨.inl (by decide), ht, ?_, ?_, ?_⟩
  ·show _ + 1 ≤ _
   omega
  ·rw [ByteArray.size_append]
   show _ + 1 + _ ≤ _
   omega
  ·rw [if_neg hn]
def wordsB (q : Int) : ByteArray × ByteArray := if q = 1 then (⟨#[101, 120, 105, 115, 116, 115]⟩, ⟨#[65, 108, 108, 111, 119, 101, 100]⟩) else if q = 2 then (⟨#[126, 101, 120, 105, 115, 116, 115]⟩, ⟨#[70, 111, 114, 98, 105, 100, 100, 101, 110]⟩) else (⟨#[102, 111, 114, 97, 108, 108]⟩, ⟨#[82, 101, 113, 117, 105, 114, 101, 100]⟩)
def wordsF : List PV → Option (List Prop × PV)
 | [.val (.int .i64 q)] => some ([], .tuple [vS (wordsB q).1, vS (wordsB q).2])
 | _ => none
theorem wordsE (q : Int) : wordsF [.val (.int .i64 q)] = some ([], .tuple [vS (wordsB q).1, vS (wordsB q).2]) := rfl
def W34 := @Tryz.results34
theorem words_ok : Sound Tryz.prog G0 34 (conT (CB.fn wordsF).toCon) := by
 refine fn_of DN_ok mixed true Tryz.func34 (by decide) rfl _ ?_
 intro args ps r hq hp
 unfold wordsF at hq
 split at hq
 case h_2 => cases hq
 rename_i q
 injection hq with hq
 obtain ⟨rfl, rfl⟩ := Prod.mk.inj hq
 refine ⟨rfl, ?_⟩
 simp only [awpBFn, Tryz.ntmps34, List.length_cons, List.length_nil, Nat.reduceAdd, Nat.reduceSub, List.replicate_succ, List.replicate_zero, List.cons_append, List.nil_append, List.map_cons, List.map_nil]
 by_cases h1 : q = 1
 ·simp -implicitDefEqProofs (maxSteps := 2000000) only [R0, R1, R2, R3, R4, R5, R6, R7, R8, R9, R10, R11, R12, R13, R14, R15, R16, PV.strip, stripL, PV.noref, ri, feedL, feeds, Nat.reduceBEq, Array.toList, ↓reduceIte, forall_const, implies_true, Nat.reduceEqDiff, reduceCtorEq, alP, bxP, bsP, ifP, quiet, riD, bs_l, PV.isRef, plainCell, norefL, PV.scalar, scalarL, PV.cells, PV.solid, PV.one, PV.free, freeL, fillP, splice, Nat.reduceAdd, Nat.reduceMul, Nat.reduceSub, Nat.reduceLeDiff, Nat.reduceLT, Int.reduceToNat, Int.reduceEq, Int.reduceLT, Int.reduceLE, Int.reduceNeg, E0_vc, vaN, PV.avoid, avoidL, Nat.reduceGT, W34, h1, wordsB, RB0]
 ·by_cases h2 : q = 2
  ·simp -implicitDefEqProofs (maxSteps := 2000000) only [R0, R1, R2, R3, R4, R5, R6, R7, R8, R9, R10, R11, R12, R13, R14, R15, R16, PV.strip, stripL, PV.noref, ri, feedL, feeds, Nat.reduceBEq, Array.toList, ↓reduceIte, forall_const, implies_true, Nat.reduceEqDiff, reduceCtorEq, alP, bxP, bsP, ifP, quiet, riD, bs_l, PV.isRef, plainCell, norefL, PV.scalar, scalarL, PV.cells, PV.solid, PV.one, PV.free, freeL, fillP, splice, Nat.reduceAdd, Nat.reduceMul, Nat.reduceSub, Nat.reduceLeDiff, Nat.reduceLT, Int.reduceToNat, Int.reduceEq, Int.reduceLT, Int.reduceLE, Int.reduceNeg, E0_vc, vaN, PV.avoid, avoidL, Nat.reduceGT, W34, h2, wordsB, RB0]
  ·simp -implicitDefEqProofs (maxSteps := 2000000) only [R0, R1, R2, R3, R4, R5, R6, R7, R8, R9, R10, R11, R12, R13, R14, R15, R16, PV.strip, stripL, PV.noref, ri, feedL, feeds, Nat.reduceBEq, Array.toList, ↓reduceIte, forall_const, implies_true, Nat.reduceEqDiff, reduceCtorEq, alP, bxP, bsP, ifP, quiet, riD, bs_l, PV.isRef, plainCell, norefL, PV.scalar, scalarL, PV.cells, PV.solid, PV.one, PV.free, freeL, fillP, splice, Nat.reduceAdd, Nat.reduceMul, Nat.reduceSub, Nat.reduceLeDiff, Nat.reduceLT, Int.reduceToNat, Int.reduceEq, Int.reduceLT, Int.reduceLE, Int.reduceNeg, E0_vc, vaN, PV.avoid, avoidL, Nat.reduceGT, W34, h1, h2, wordsB, RB0]
def validB (q a b : Int) : Bool := if q = 1 then !decide (a = 0) else if q = 2 then decide (a = 0) else decide (b = 0)
def validF : List PV → Option (List Prop × PV)
 | [.val (.int .i64 q), .val (.int .i64 a), .val (.int .i64 b)] => some ([], vT (validB q a b))
 | _ => none
theorem validE (q a b : Int) : validF [.val (.int .i64 q), .val (.int .i64 a), .val (.int .i64 b)] = some ([], vT (validB q a b)) := rfl
def W41 := @Tryz.results41
theorem valid_ok : Sound Tryz.prog G0 41 (conT (CB.fn validF).toCon) := by
 refine fn_of DN_ok mixed true Tryz.func41 (by decide) rfl _ ?_
 intro args ps r hq hp
 unfold validF at hq
 split at hq
 case h_2 => cases hq
 rename_i q a b
 injection hq with hq
 obtain ⟨rfl, rfl⟩ := Prod.mk.inj hq
 refine ⟨rfl, ?_⟩
 simp only [awpBFn, Tryz.ntmps41, List.length_cons, List.length_nil, Nat.reduceAdd, Nat.reduceSub, List.replicate_succ, List.replicate_zero, List.cons_append, List.nil_append, List.map_cons, List.map_nil]
 by_cases h1 : q = 1
 ·simp -implicitDefEqProofs (maxSteps := 2000000) only [R0, R1, R2, R3, R4, R5, R6, R7, R8, R9, R10, R11, R12, R13, R14, R15, R16, PV.strip, stripL, PV.noref, ri, feedL, feeds, Nat.reduceBEq, Array.toList, ↓reduceIte, forall_const, implies_true, Nat.reduceEqDiff, reduceCtorEq, alP, bxP, bsP, ifP, quiet, riD, bs_l, PV.isRef, plainCell, norefL, PV.scalar, scalarL, PV.cells, PV.solid, PV.one, PV.free, freeL, fillP, splice, Nat.reduceAdd, Nat.reduceMul, Nat.reduceSub, Nat.reduceLeDiff, Nat.reduceLT, Int.reduceToNat, Int.reduceEq, Int.reduceLT, Int.reduceLE, Int.reduceNeg, E0_vc, vaN, PV.avoid, avoidL, Nat.reduceGT, W41, h1, validB, RB0]
 ·by_cases h2 : q = 2
  ·simp -implicitDefEqProofs (maxSteps := 2000000) only [R0, R1, R2, R3, R4, R5, R6, R7, R8, R9, R10, R11, R12, R13, R14, R15, R16, PV.strip, stripL, PV.noref, ri, feedL, feeds, Nat.reduceBEq, Array.toList, ↓reduceIte, forall_const, implies_true, Nat.reduceEqDiff, reduceCtorEq, alP, bxP, bsP, ifP, quiet, riD, bs_l, PV.isRef, plainCell, norefL, PV.scalar, scalarL, PV.cells, PV.solid, PV.one, PV.free, freeL, fillP, splice, Nat.reduceAdd, Nat.reduceMul, Nat.reduceSub, Nat.reduceLeDiff, Nat.reduceLT, Int.reduceToNat, Int.reduceEq, Int.reduceLT, Int.reduceLE, Int.reduceNeg, E0_vc, vaN, PV.avoid, avoidL, Nat.reduceGT, W41, h2, validB, RB0]
  ·simp -implicitDefEqProofs (maxSteps := 2000000) only [R0, R1, R2, R3, R4, R5, R6, R7, R8, R9, R10, R11, R12, R13, R14, R15, R16, PV.strip, stripL, PV.noref, ri, feedL, feeds, Nat.reduceBEq, Array.toList, ↓reduceIte, forall_const, implies_true, Nat.reduceEqDiff, reduceCtorEq, alP, bxP, bsP, ifP, quiet, riD, bs_l, PV.isRef, plainCell, norefL, PV.scalar, scalarL, PV.cells, PV.solid, PV.one, PV.free, freeL, fillP, splice, Nat.reduceAdd, Nat.reduceMul, Nat.reduceSub, Nat.reduceLeDiff, Nat.reduceLT, Int.reduceToNat, Int.reduceEq, Int.reduceLT, Int.reduceLE, Int.reduceNeg, E0_vc, vaN, PV.avoid, avoidL, Nat.reduceGT, W41, h1, h2, validB, RB0]
end Go.Ve.H
end
section
set_option maxRecDepth 10000
set_option maxHeartbeats 8000000
namespace Go.Ve.H
open Go Go.Proofs Go.Ve
def wordB (r : Ref) (v : Int) : ByteArray := refB r ++ ⟨#[61]⟩ ++ itoaB v ++ ⟨#[59]⟩
def stB : Nat → List Ref → List Int → ByteArray → ByteArray
 | i, r :: l, v :: vs, s => stB (i + 1) l vs ((if 0 < i then s ++ ⟨#[32]⟩ else s) ++ refB r ++ ⟨#[61]⟩ ++ itoaB v ++ ⟨#[59]⟩)
 | _, _, _, s => s
def stTextB (l : List Ref) (f : Fin) : ByteArray := stB 0 l f.v ⟨#[]⟩
def stOk (l : List Ref) (f : Fin) : Prop := finOk f = true ∧ (l.length : Int) = f.n
instance (l : List Ref) (f : Fin) : Decidable (stOk l f) := by unfold stOk; infer_instance
def szS (l : List Ref) (f : Fin) : Prop := (∀ r ∈ l, inI64 r.t ∧ -1 ≤ r.t ∧ r.n.size ≤ 1099511627776) ∧ ∀ x ∈ f.v, inI64 x
def stF : List PV → Option (List Prop × PV)
 | [p, q] => match finD p, slD 2 refD q with
  | some f, some l => some ([l.length ≤ 1099511627776, szS l f], .tuple (if stOk l f then [vS (stTextB l f), vI 0] else [vS ⟨#[]⟩, vI 4]))
  | _, _ => none
 | _ => none
theorem stF_inv {args : List PV} {x : List Prop × PV} (h : stF args = some x) : ∃ j o l f, args = [finP f, .sl j (l.map refP) o] ∧ (j = 2 ∨ l = []) ∧ x = ([l.length ≤ 1099511627776, szS l f], .tuple (if stOk l f then [vS (stTextB l f), vI 0] else [vS ⟨#[]⟩, vI 4])) := by
 unfold stF at h
 split at h
 ·split at h
  ·rename_i f k h1 h2
   injection h with h
   obtain ⟨j, o, rfl, hj⟩ := slD_inv (fun _ _ => refD_inv) h2
   exact ⟨j, o, k, f, by rw [finD_inv h1], hj, h.symm⟩
  ·cases h
 ·cases h
def rStTF := stF
def pStTF := stF
theorem stE {j : Nat} {o : Bool} {l : List Ref} (hj : j = 2 ∨ l = []) (f : Fin) : stF [.agg (vI f.n :: f.v.map vI), .sl j (l.map refP) o] = some ([l.length ≤ 1099511627776, szS l f], .tuple (if stOk l f then [vS (stTextB l f), vI 0] else [vS ⟨#[]⟩, vI 4])) := by
 show (match finD (finP f), slD 2 refD (.sl j (l.map refP) o) with | some f, some l => some ([l.length ≤ 1099511627776, szS l f], PV.tuple (if stOk l f then [vS (stTextB l f), vI 0] else [vS ⟨#[]⟩, vI 4])) | _, _ => none) = _
 rw [finD_P, slD_of refD_P hj]
theorem stB_go {l : List Ref} {v : List Int} {i : Nat} (h : i < l.length) (h' : i < v.length) (s : ByteArray) : stB i (l.drop i) (v.drop i) s = stB (i + 1) (l.drop (i + 1)) (v.drop (i + 1)) ((if 0 < i then s ++ ⟨#[32]⟩ else s) ++ refB (l.getD i noRef) ++ ⟨#[61]⟩ ++ itoaB (v.getD i 0) ++ ⟨#[59]⟩) := by
 rw [List.drop_eq_getElem_cons h, List.drop_eq_getElem_cons h', stB, List.getD_eq_getElem?_getD, List.getElem?_eq_getElem h, List.getD_eq_getElem?_getD, List.getElem?_eq_getElem h']; rfl
theorem stB_end {l : List Ref} {v : List Int} {i : Nat} (h : ¬ i < l.length) (s : ByteArray) : stB i (l.drop i) (v.drop i) s = s := by
 rw [List.drop_eq_nil_of_le (by omega)]; rfl
theorem refB_size {r : Ref} (h : inI64 r.t) : (refB r).size ≤ r.n.size + 22 := by
 unfold refB
 split
 ·omega
 ·have := itoa_size h
  simp only [ByteArray.size_append]
  have : (⟨#[58]⟩ : ByteArray).size = 1 := rfl
  omega
theorem szW0 {s R N : ByteArray} (h1 : s.size ≤ 0 * 2199023255552) (h2 : R.size ≤ 1099511627798) (h3 : N.size ≤ 21) : s.size + R.size ≤ 9223372036854775807 ∧ (s ++ R).size + (⟨#[61]⟩ : ByteArray).size ≤ 9223372036854775807 ∧ (s ++ R ++ ⟨#[61]⟩).size + N.size ≤ 9223372036854775807 ∧ (s ++ R ++ ⟨#[61]⟩ ++ N).size + (⟨#[59]⟩ : ByteArray).size ≤ 9223372036854775807 ∧ (s ++ R ++ ⟨#[61]⟩ ++ N ++ ⟨#[59]⟩).size ≤ (0 + 1) * 2199023255552 := by
 have z2 : (⟨#[61]⟩ : ByteArray).size = 1 := rfl
 have z3 : (⟨#[59]⟩ : ByteArray).size = 1 := rfl
 simp only [ByteArray.size_append, z2, z3]
 omega
theorem szW {s R N : ByteArray} {i : Nat} (hi : i < 48) (h1 : s.size ≤ i * 2199023255552) (h2 : R.size ≤ 1099511627798) (h3 : N.size ≤ 21) : (s ++ ⟨#[32]⟩).size + R.size ≤ 9223372036854775807 ∧ (s ++ ⟨#[32]⟩ ++ R).size + (⟨#[61]⟩ : ByteArray).size ≤ 9223372036854775807 ∧ (s ++ ⟨#[32]⟩ ++ R ++ ⟨#[61]⟩).size + N.size ≤ 9223372036854775807 ∧ (s ++ ⟨#[32]⟩ ++ R ++ ⟨#[61]⟩ ++ N).size + (⟨#[59]⟩ : ByteArray).size ≤ 9223372036854775807 ∧ (s ++ ⟨#[32]⟩ ++ R ++ ⟨#[61]⟩ ++ N ++ ⟨#[59]⟩).size ≤ (i + 1) * 2199023255552 := by
 have z1 : (⟨#[32]⟩ : ByteArray).size = 1 := rfl
 have z2 : (⟨#[61]⟩ : ByteArray).size = 1 := rfl
 have z3 : (⟨#[59]⟩ : ByteArray).size = 1 := rfl
 simp only [ByteArray.size_append, z1, z2, z3]
 omega
def D44 : FuncId → Option CB
 | 26 => some (.fn rFCheckF)
 | 43 => some (.fn rNumF)
 | 65 => some (.fn rName10F)
 | _ => none
theorem D44_ok : AllB E0 D44 := fun g c h => by
 unfold D44 at h
 split at h <;> simp at h <;> subst h
 ·exact rFCheck_ok
 ·exact rNum_ok
 ·exact rName10_ok
def W44 := And.intro @Tryz.results44 (And.intro @ag48 (And.intro @sz48 (And.intro @Tryz.underlying22 (And.intro @fa48_0 (And.intro @ag3 (And.intro @sz3 (And.intro @zd3 (And.intro @sz45 (And.intro @zd45 (And.intro @ag45 (And.intro @fa48_1 (And.intro @Tryz.underlying46 (And.intro @sz2 (And.intro @zd2 (And.intro @ag2 (And.intro @rFCheckE (And.intro @rNumE (@rName10E))))))))))))))))))
theorem rStT_ok : Sound Tryz.prog G0 44 (conT (CB.fn rStTF).toCon) := by
 refine fn_of D44_ok mixed true Tryz.func44 (by decide) rfl _ ?_
 intro args ps r hq hp
 obtain ⟨j, o, l, f, rfl, hj, hx⟩ := stF_inv hq
 obtain ⟨rfl, rfl⟩ := Prod.mk.inj hx
 have hl := hp (l.length ≤ 1099511627776) (by simp)
 have hz := hp (szS l f) (by simp)
 refine ⟨by simp [finP, norefL, PV.noref, nr_map nr_ref, norefL_eq], ?_⟩
 simp only [awpBFn, Tryz.ntmps44, List.length_cons, List.length_nil, Nat.reduceAdd, Nat.reduceSub, List.replicate_succ, List.replicate_zero, List.cons_append, List.nil_append, List.map_cons, List.map_nil]
 have hI0 : ∀ f : Fin, 0 ≤ (if finOk f = true then (0 : Int) else 4) := fun f => by split <;> omega
 by_cases hst : finOk f = true ∧ (l.length : Int) = f.n
 case neg =>
  have hst2 : ¬ stOk l f := hst
  simp -implicitDefEqProofs (maxSteps := 2000000) only [R0, R1, R2, R3, R4, R5, R6, R7, R8, R9, R10, R11, R12, R13, R14, R15, R16, PV.strip, stripL, PV.noref, ri, feedL, feeds, Nat.reduceBEq, Array.toList, ↓reduceIte, forall_const, implies_true, Nat.reduceEqDiff, reduceCtorEq, alP, bxP, bsP, ifP, quiet, riD, bs_l, PV.isRef, plainCell, norefL, PV.scalar, scalarL, PV.cells, PV.solid, PV.one, PV.free, freeL, fillP, splice, Nat.reduceAdd, Nat.reduceMul, Nat.reduceSub, Nat.reduceLeDiff, Nat.reduceLT, Int.reduceToNat, Int.reduceEq, Int.reduceLT, Int.reduceLE, Int.reduceNeg, E0_vc, vaN, PV.avoid, avoidL, Nat.reduceGT, W44, D44, finP, tk48, len48, strip_vI, List.length_map, hst2, RB0]
  refine ⟨by rw [f.hl]; omega, fun _ => by omega, fun h => absurd ?_ hst⟩
  simp only [Bool.or_eq_false_iff, Bool.not_eq_eq_eq_not, Bool.not_false, decide_eq_true_eq] at h
  refine ⟨?_, h.2⟩
  cases hfo : finOk f with
  | true => rfl
  | false => rw [hfo] at h; exact absurd h.1 (by decide)
 have hst2 : stOk l f := hst
 obtain ⟨hf, hn⟩ := hst
 simp -implicitDefEqProofs (maxSteps := 2000000) only [R0, R1, R2, R3, R4, R5, R6, R7, R8, R9, R10, R11, R12, R13, R14, R15, R16, PV.strip, stripL, PV.noref, ri, feedL, feeds, Nat.reduceBEq, Array.toList, ↓reduceIte, forall_const, implies_true, Nat.reduceEqDiff, reduceCtorEq, alP, bxP, bsP, ifP, quiet, riD, bs_l, PV.isRef, plainCell, norefL, PV.scalar, scalarL, PV.cells, PV.solid, PV.one, PV.free, freeL, fillP, splice, Nat.reduceAdd, Nat.reduceMul, Nat.reduceSub, Nat.reduceLeDiff, Nat.reduceLT, Int.reduceToNat, Int.reduceEq, Int.reduceLT, Int.reduceLE, Int.reduceNeg, E0_vc, vaN, PV.avoid, avoidL, Nat.reduceGT, W44, D44, finP, tk48, len48, strip_vI, List.length_map, hst2, hf, hn, RB0]
 refine ⟨by rw [f.hl]; omega, by omega, ?_⟩
 refine loopB_by (fun x : Nat × ByteArray => [.junk, .sl j (l.map refP) false, .ptr 0 0, .junk, .junk, .junk, vS x.2, vI x.1, .junk, .junk, .junk, .junk, .junk, .junk, .junk, .junk, .junk, .junk, .junk, .junk, .junk, .junk, .junk, .junk, .junk, .junk, .junk, .junk, .junk, .junk, .junk, .junk, .junk, .junk, .junk, .junk, .junk, .junk, .junk, .junk, .junk, .junk, .junk, .junk]) (fun _ => [.live (vI f.n :: f.v.map vI)])
  (fun x => x.1 ≤ l.length ∧ x.2.size ≤ x.1 * 2199023255552 ∧ stB x.1 (l.drop x.1) (f.v.drop x.1) x.2 = stTextB l f) (fun x => l.length - x.1) (0, ⟨#[]⟩) ?_ ?_ ?_
 ·simp only [RG0, RG1, Nat.reduceAdd, ltL, PV.lt, Blk.lt, Nat.reduceLT, Nat.reduceLeDiff, Wk_rfl, ltL_vI, wk_sl]
 ·exact ⟨Nat.zero_le _, Nat.zero_le _, rfl⟩
 intro x hP
 obtain ⟨i, s⟩ := x
 have p1 : i ≤ l.length := hP.1
 have p2 : s.size ≤ i * 2199023255552 := hP.2.1
 have p3 : stB i (l.drop i) (f.v.drop i) s = stTextB l f := hP.2.2
 by_cases hi : i < l.length
 case neg =>
  have hi' : ¬ (i : Int) < f.n := by omega
  simp -implicitDefEqProofs (maxSteps := 2000000) only [R0, R1, R2, R3, R4, R5, R6, R7, R8, R9, R10, R11, R12, R13, R14, R15, R16, PV.strip, stripL, PV.noref, ri, feedL, feeds, Nat.reduceBEq, Array.toList, ↓reduceIte, forall_const, implies_true, Nat.reduceEqDiff, reduceCtorEq, alP, bxP, bsP, ifP, quiet, riD, bs_l, PV.isRef, plainCell, norefL, PV.scalar, scalarL, PV.cells, PV.solid, PV.one, PV.free, freeL, fillP, splice, Nat.reduceAdd, Nat.reduceMul, Nat.reduceSub, Nat.reduceLeDiff, Nat.reduceLT, Int.reduceToNat, Int.reduceEq, Int.reduceLT, Int.reduceLE, Int.reduceNeg, E0_vc, vaN, PV.avoid, avoidL, Nat.reduceGT, W44, D44, gd_ref, refP, gd_m, Int.toNat_natCast, List.length_map, hi', hst2, RB0]
  rw [← p3, stB_end hi]
  exact ⟨by omega, rfl⟩
 have hi' : (i : Int) < f.n := by omega
 have hgi : (vI f.n :: f.v.map vI).getD (1 + i) (vI 0) = vI (f.v.getD i 0) := by
  rw [Nat.add_comm, List.getD_cons_succ, gd_m]
 have hf48 : f.n ≤ 48 := by
  simp only [finOk, Bool.and_eq_true, decide_eq_true_eq] at hf; exact hf.1.2
 have hj2 : j = 2 := hj.resolve_right (by rintro rfl; simp at hi)
 have hmem : l.getD i noRef ∈ l := by
  rw [List.getD_eq_getElem?_getD, List.getElem?_eq_getElem hi]; exact List.getElem_mem hi
 have hv48 : i < f.v.length := by rw [f.hl]; omega
 have hvm : f.v.getD i 0 ∈ f.v := by
  rw [List.getD_eq_getElem?_getD, List.getElem?_eq_getElem hv48]; exact List.getElem_mem hv48
 obtain ⟨hr1, hr2, hr3⟩ := hz.1 _ hmem
 have hvi := hz.2 _ hvm
 have hs1 := refB_size hr1
 have hs2 := itoa_size hvi
 have hgo := stB_go hi hv48 s
 rw [p3] at hgo
 have z1 : (⟨#[32]⟩ : ByteArray).size = 1 := rfl
 have z2 : (⟨#[61]⟩ : ByteArray).size = 1 := rfl
 have z3 : (⟨#[59]⟩ : ByteArray).size = 1 := rfl
 have hs1' : (refB { t := (l.getD i noRef).t, n := (l.getD i noRef).n }).size ≤ (l.getD i noRef).n.size + 22 := hs1
 have hib : i * 2199023255552 ≤ 48 * 2199023255552 := Nat.mul_le_mul_right _ (by omega)
 have hW := szW (s := s) (i := i) (by omega) p2 (Nat.le_trans hs1 (by omega)) hs2
 by_cases h0 : i = 0
 ·subst h0
  have hi2 : 0 < f.n := by omega
  have hW := szW0 (s := s) p2 (Nat.le_trans hs1 (by omega)) hs2
  rw [if_neg (by omega)] at hgo
  simp -implicitDefEqProofs (maxSteps := 2000000) only [R0, R1, R2, R3, R4, R5, R6, R7, R8, R9, R10, R11, R12, R13, R14, R15, R16, PV.strip, stripL, PV.noref, ri, feedL, feeds, Nat.reduceBEq, Array.toList, ↓reduceIte, forall_const, implies_true, Nat.reduceEqDiff, reduceCtorEq, alP, bxP, bsP, ifP, quiet, riD, bs_l, PV.isRef, plainCell, norefL, PV.scalar, scalarL, PV.cells, PV.solid, PV.one, PV.free, freeL, fillP, splice, Nat.reduceAdd, Nat.reduceMul, Nat.reduceSub, Nat.reduceLeDiff, Nat.reduceLT, Int.reduceToNat, Int.reduceEq, Int.reduceLT, Int.reduceLE, Int.reduceNeg, E0_vc, vaN, PV.avoid, avoidL, Nat.reduceGT, W44, D44, gd_ref, refP, gd_m, hgi, Int.toNat_natCast, List.length_map, hi2, hst2, RB0]
  refine ⟨by omega, .inl (by decide), hj2, by omega, hr1, hr2, hr3, hW.1, hW.2.1, by omega, hvi, hW.2.2.1, hW.2.2.2.1, by unfold inI64; omega, (0 + 1, _), ⟨by show 0 + 1 ≤ _; omega, hW.2.2.2.2, hgo.symm⟩, by show _ - (0 + 1) < _ - 0; omega, ?_⟩
  simp only [RG0, RG1, Nat.reduceAdd, ltL, PV.lt, Blk.lt, Nat.reduceLT, Nat.reduceLeDiff, Wk_rfl, ltL_vI, wk_sl] <;> first | omega | skip
  all_goals trace_state
 have h0' : (0 : Int) < i := by omega
 rw [if_pos (show 0 < i by omega)] at hgo
 simp -implicitDefEqProofs (maxSteps := 2000000) only [R0, R1, R2, R3, R4, R5, R6, R7, R8, R9, R10, R11, R12, R13, R14, R15, R16, PV.strip, stripL, PV.noref, ri, feedL, feeds, Nat.reduceBEq, Array.toList, ↓reduceIte, forall_const, implies_true, Nat.reduceEqDiff, reduceCtorEq, alP, bxP, bsP, ifP, quiet, riD, bs_l, PV.isRef, plainCell, norefL, PV.scalar, scalarL, PV.cells, PV.solid, PV.one, PV.free, freeL, fillP, splice, Nat.reduceAdd, Nat.reduceMul, Nat.reduceSub, Nat.reduceLeDiff, Nat.reduceLT, Int.reduceToNat, Int.reduceEq, Int.reduceLT, Int.reduceLE, Int.reduceNeg, E0_vc, vaN, PV.avoid, avoidL, Nat.reduceGT, W44, D44, gd_ref, refP, gd_m, hgi, Int.toNat_natCast, List.length_map, hi', h0', hst2, RB0]
 refine ⟨by omega, by omega, .inl (by decide), hj2, by omega, hr1, hr2, hr3, ?_, ?_, by omega, by omega, hvi, ?_, ?_, by unfold inI64; omega, (i + 1, _), ⟨by show i + 1 ≤ _; omega, ?_, hgo.symm⟩, by show _ - (i + 1) < _ - i; omega, ?_⟩
 ·exact hW.1
 ·exact hW.2.1
 ·exact hW.2.2.1
 ·exact hW.2.2.2.1
 ·exact hW.2.2.2.2
 ·simp only [RG0, RG1, Nat.reduceAdd, ltL, PV.lt, Blk.lt, Nat.reduceLT, Nat.reduceLeDiff, Wk_rfl, ltL_vI, wk_sl] <;> first | omega | (refine ⟨rfl, ?_⟩; omega) | skip
  all_goals trace_state
end Go.Ve.H
end
section
set_option maxRecDepth 10000
set_option maxHeartbeats 8000000
namespace Go.Ve.H
open Go Go.Proofs Go.Ve
def repB (s : ByteArray) (k : Nat) : ByteArray := ⟨(Lib.repeatL s.data.toList k).toArray⟩
def repSF : List PV → Option (List Prop × PV)
 | [.val (.string s), .val (.int .i64 n)] => some ([0 ≤ n, n ≤ 9223372036854775807, s.size * n.toNat ≤ 140737488355328], vS (repB s n.toNat))
 | _ => none
theorem repSE (s : ByteArray) (n : Int) : repSF [.val (.string s), .val (.int .i64 n)] = some ([0 ≤ n, n ≤ 9223372036854775807, s.size * n.toNat ≤ 140737488355328], vS (repB s n.toNat)) := rfl
theorem repS_ok : Sound Tryz.prog G0 62 (conT (CB.fn repSF).toCon) := by
 refine Sound.lib ⟨_, Tryz.func62, by decide, rfl⟩ _ ?_
 intro args ps r hq hp
 unfold repSF at hq
 split at hq
 ·rename_i s n
  injection hq with hq
  obtain ⟨rfl, rfl⟩ := Prod.mk.inj hq
  have h0 : 0 ≤ n := hp _ (by simp)
  have h1 : n ≤ 9223372036854775807 := hp _ (by simp)
  have h2 : s.size * n.toNat ≤ 140737488355328 := hp _ (by simp)
  refine ⟨_, rfl, rfl, fun F0 R w vs hF hg hr => ?_⟩
  have hv := arr_of (repL_vals (us := [.string s, .int .i64 n]) hr)
  subst hv
  have hc : n = (n.toNat : Int) := by omega
  have := Tryz.strings_Repeat s n.toNat w (by omega) h2
  rw [← hc] at this
  exact this
 ·cases hq
def padB (s : ByteArray) : ByteArray := s ++ repB ⟨#[32]⟩ (6 - s.size)
def paddF : List PV → Option (List Prop × PV)
 | [.val (.string s)] => some ([s.size ≤ 1099511627776], vS (padB s))
 | _ => none
theorem paddE (s : ByteArray) : paddF [.val (.string s)] = some ([s.size ≤ 1099511627776], vS (padB s)) := rfl
theorem repB_size (s : ByteArray) (k : Nat) : (repB s k).size = s.size * k := by
 have h := Lib.repeatL_length s.data.toList k
 rw [Nat.mul_comm]
 exact h
def D39 : FuncId → Option CB
 | 62 => some (.fn repSF)
 | _ => none
theorem D39_ok : AllB E0 D39 := fun g c h => by
 unfold D39 at h
 split at h <;> simp at h <;> subst h
 ·exact repS_ok
theorem padd_ok : Sound Tryz.prog G0 39 (conT (CB.fn paddF).toCon) := by
 refine fn_of D39_ok mixed true Tryz.func39 (by decide) rfl _ ?_
 intro args ps r hq hp
 unfold paddF at hq
 split at hq <;> simp only [reduceCtorEq, Option.some.injEq, Prod.mk.injEq] at hq
 rename_i s
 obtain ⟨rfl, rfl⟩ := hq
 have hs := hp (s.size ≤ 1099511627776) (by simp)
 refine ⟨rfl, ?_⟩
 simp only [awpBFn, Tryz.ntmps39, List.length_cons, List.length_nil, Nat.reduceAdd, Nat.reduceSub, List.replicate_succ, List.replicate_zero, List.cons_append, List.nil_append, List.map_cons, List.map_nil]
 simp -implicitDefEqProofs (maxSteps := 2000000) only [R0, R1, R2, R3, R4, R5, R6, R7, R8, R9, R10, R11, R12, R13, R14, R15, R16, PV.strip, stripL, PV.noref, ri, feedL, feeds, Nat.reduceBEq, Array.toList, ↓reduceIte, forall_const, implies_true, Nat.reduceEqDiff, reduceCtorEq, alP, bxP, bsP, ifP, quiet, riD, bs_l, PV.isRef, plainCell, norefL, PV.scalar, scalarL, PV.cells, PV.solid, PV.one, PV.free, freeL, fillP, splice, Nat.reduceAdd, Nat.reduceMul, Nat.reduceSub, Nat.reduceLeDiff, Nat.reduceLT, Int.reduceToNat, Int.reduceEq, Int.reduceLT, Int.reduceLE, Int.reduceNeg, E0_vc, vaN, PV.avoid, avoidL, Nat.reduceGT, Tryz.results39, Tryz.underlying9, D39, repSE, RB0]
 have e : (if 6 - (s.size : Int) > 0 then 6 - (s.size : Int) else 0).toNat = 6 - s.size := by split <;> omega
 have e0 : 0 ≤ (if 6 - (s.size : Int) > 0 then 6 - (s.size : Int) else 0) := by split <;> omega
 have e1 : (if 6 - (s.size : Int) > 0 then 6 - (s.size : Int) else 0) ≤ 9223372036854775807 := by split <;> omega
 have z : (⟨#[32]⟩ : ByteArray).size = 1 := rfl
 rw [e, repB_size, z]
 exact ⟨by unfold inI64; omega, e0, e1, by omega, by omega, rfl⟩
end Go.Ve.H
end
section
set_option maxRecDepth 10000
set_option maxHeartbeats 8000000
namespace Go.Ve.H
open Go Go.Proofs Go.Ve
def joinB (xs : List ByteArray) (sep : ByteArray) : ByteArray := ⟨(Lib.join (xs.map (·.data.toList)) sep.data.toList).toArray⟩
def strD : PV → Option ByteArray
 | .val (.string s) => some s
 | _ => none
theorem strD_inv {p : PV} {s : ByteArray} (h : strD p = some s) : p = vS s := by
 unfold strD at h
 split at h
 ·injection h with h; subst h; rfl
 ·cases h
def joinSF : List PV → Option (List Prop × PV)
 | [p, .val (.string sep)] => match slD 1 strD p with
  | some xs => some ([xs.length ≤ 140737488355328, (joinB xs sep).size ≤ 140737488355328], vS (joinB xs sep))
  | none => none
 | _ => none
theorem repL_str {F : Fz} : ∀ {l : List ByteArray} {us : List Value}, RepL F [] ((l.map vS).flatMap PV.cells) us → us = l.map Value.string
 | [], _, .nil => rfl
 | z :: l, _, .cons h t => by
  obtain ⟨e, _⟩ := h.val_inv
  rw [List.map_cons, ← repL_str t, e]
theorem joinS_ok : Sound Tryz.prog G0 61 (conT (CB.fn joinSF).toCon) := by
 refine Sound.lib ⟨_, Tryz.func61, by decide, rfl⟩ _ ?_
 intro args ps r hq hp
 unfold joinSF at hq
 split at hq
 ·rename_i p sep
  split at hq
  ·rename_i xs hx
   injection hq with hq
   obtain ⟨rfl, rfl⟩ := Prod.mk.inj hq
   have h1 : xs.length ≤ 140737488355328 := hp _ (by simp)
   have h2 : (joinB xs sep).size ≤ 140737488355328 := hp _ (by simp)
   obtain ⟨j, o, rfl, hj⟩ := slD_inv (fun _ _ => strD_inv) hx
   refine ⟨_, rfl, rfl, fun F0 R w vs hF hg hr => ?_⟩
   obtain ⟨vl, rfl⟩ : ∃ l : List Value, vs = l.toArray := ⟨vs.toList, by simp⟩
   simp only at hr
   cases hr with
   | cons ha t =>
    cases t with
    | cons hb t2 =>
     cases t2
     obtain ⟨e, _⟩ := hb.val_inv
     subst e
     cases xs with
     | nil =>
      simp only [List.map_nil] at ha
      cases ha with
      | slnil =>
       refine (Tryz.strings_Join_none none 0 sep w).mono ?_
       rintro e w' ⟨rfl, rfl⟩
       exact ⟨rfl, RowKit.Below.refl _ _⟩
      | sl us hk0 hl hc hk hF2 hR2 =>
       rw [hl]
       refine (Tryz.strings_Join_none _ _ sep w).mono ?_
       rintro e w' ⟨rfl, rfl⟩
       exact ⟨rfl, RowKit.Below.refl _ _⟩
     | cons x xs =>
      simp only [List.map_cons] at ha
      cases ha with
      | sl us hk0 hl hc hk hF2 hR2 =>
       have e := repL_str (l := x :: xs) hR2
       subst e
       have hcell : ∀ (j : Nat) y, (x :: xs)[j]? = some y → w.cell? ⟨_, _ + j, none⟩ = some (.string y) := fun j y hy => (hF _ _ _ (hF2 j (.string y) (by rw [List.getElem?_map, hy]; rfl))).1
       have hl' := hl
       rw [List.length_cons, List.length_map] at hl'
       have h0 := hcell 0 x rfl
       have hb := cell_lt h0
       rw [hl']
       exact Tryz.strings_Join _ _ _ (x :: xs) sep w hcell hb h1 (by simpa using hl' ▸ hc) h2
  ·cases hq
 ·cases hq
end Go.Ve.H
end
section
set_option maxRecDepth 10000
set_option maxHeartbeats 8000000
namespace Go.Ve.H
open Go Go.Proofs Go.Ve
def wordsL (l : List Ref) (v : List Int) : List ByteArray := List.zipWith wordB l v
theorem ba_ext {a b : ByteArray} (h : a.data.toList = b.data.toList) : a = b := by
 cases a; cases b; simp only at h; congr 1; exact Array.ext' h
theorem ba_app (a b : ByteArray) : (a ++ b).data.toList = a.data.toList ++ b.data.toList := by
 rw [ByteArray.data_append, Array.toList_append]
theorem stB_tail : ∀ (l : List Ref) (v : List Int) (k : Nat) (s : ByteArray), (stB (k + 1) l v s).data.toList = s.data.toList ++ Lib.joinTail [32] ((wordsL l v).map (·.data.toList))
 | [], v, k, s => by simp [stB, wordsL, Lib.joinTail]
 | r :: l, [], k, s => by simp [stB, wordsL, Lib.joinTail]
 | r :: l, x :: v, k, s => by
  rw [stB, stB_tail l v, if_pos (by omega)]
  simp only [ba_app, wordsL, List.zipWith_cons_cons, List.map_cons, Lib.joinTail, List.flatten_cons, wordB, List.append_assoc]
theorem st_join (l : List Ref) (v : List Int) : stB 0 l v ⟨#[]⟩ = joinB (wordsL l v) ⟨#[32]⟩ := by
 apply ba_ext
 cases l with
 | nil => rfl
 | cons r l => cases v with
  | nil => rfl
  | cons x v =>
   rw [stB, stB_tail, if_neg (by omega)]
   simp only [joinB, wordsL, List.zipWith_cons_cons, List.map_cons]
   rw [Lib.join_cons]
   simp only [ba_app, wordB, List.append_assoc]
   rfl
theorem joinSE {j : Nat} {xs : List ByteArray} {o : Bool} (hj : j = 1 ∨ xs = []) (sep : ByteArray) : joinSF [.sl j (xs.map vS) o, .val (.string sep)] = some ([xs.length ≤ 140737488355328, (joinB xs sep).size ≤ 140737488355328], vS (joinB xs sep)) := by
 show (match slD 1 strD (.sl j (xs.map vS) o) with | some xs => some ([xs.length ≤ 140737488355328, (joinB xs sep).size ≤ 140737488355328], vS (joinB xs sep)) | none => none) = _
 rw [slD_of (d := strD) (e := vS) (fun _ => rfl) hj]
theorem word_size {r : Ref} {v : Int} (h : inI64 r.t) (h2 : r.n.size ≤ 1099511627776) (h3 : inI64 v) : (wordB r v).size ≤ 1099511627776 + 50 := by
 have h1 := refB_size h
 have h2 := itoa_size h3
 have z2 : (⟨#[61]⟩ : ByteArray).size = 1 := rfl
 have z3 : (⟨#[59]⟩ : ByteArray).size = 1 := rfl
 simp only [wordB, ByteArray.size_append, z2, z3]
 omega
theorem stB_size : ∀ (l : List Ref) (v : List Int) (i : Nat) (s : ByteArray), (∀ r ∈ l, inI64 r.t ∧ -1 ≤ r.t ∧ r.n.size ≤ 1099511627776) → (∀ x ∈ v, inI64 x) → (stB i l v s).size ≤ s.size + l.length * 2199023255552
 | [], v, i, s, _, _ => by simp [stB]
 | r :: l, [], i, s, _, _ => by simp only [stB]; omega
 | r :: l, x :: v, i, s, h, h' => by
  have ih := stB_size l v (i + 1) ((if 0 < i then s ++ ⟨#[32]⟩ else s) ++ refB r ++ ⟨#[61]⟩ ++ itoaB x ++ ⟨#[59]⟩) (fun r hr => h r (by simp [hr])) (fun x hx => h' x (by simp [hx]))
  have hw := word_size (h r (by simp)).1 (h r (by simp)).2.2 (h' x (by simp))
  have e : ((if 0 < i then s ++ ⟨#[32]⟩ else s) ++ refB r ++ ⟨#[61]⟩ ++ itoaB x ++ ⟨#[59]⟩).size ≤ s.size + 1 + (wordB r x).size := by
   simp only [wordB, ByteArray.size_append]
   split
   ·simp only [ByteArray.size_append]
    have z1 : (⟨#[32]⟩ : ByteArray).size = 1 := rfl
    omega
   ·omega
  rw [stB]
  simp only [List.length_cons]
  rw [Nat.add_mul]
  omega
theorem words_len {l : List Ref} {v : List Int} (h : l.length ≤ v.length) : (wordsL l v).length = l.length := by
 rw [wordsL, List.length_zipWith]; omega
theorem words_take {l : List Ref} {v : List Int} {i : Nat} (h : i < l.length) (h' : i < v.length) : (wordsL l v).take (i + 1) = (wordsL l v).take i ++ [wordB (l.getD i noRef) (v.getD i 0)] := by
 have hl : i < (wordsL l v).length := by rw [wordsL, List.length_zipWith]; omega
 rw [List.take_succ_eq_append_getElem hl]
 congr 2
 simp [wordsL, List.getD_eq_getElem?_getD, List.getElem?_eq_getElem h, List.getElem?_eq_getElem h']
def D38 : FuncId → Option CB
 | 37 => some (.fn itoaF)
 | 40 => some (.fn wTextF)
 | 48 => some (.fn pFCheckF)
 | 61 => some (.fn joinSF)
 | _ => none
theorem D38_ok : AllB E0 D38 := fun g c h => by
 unfold D38 at h
 split at h <;> simp at h <;> subst h
 ·exact itoa_ok
 ·exact wText_ok
 ·exact pFCheck_ok
 ·exact joinS_ok
def W38 := And.intro @Tryz.results38 (And.intro @ag48 (And.intro @sz48 (And.intro @Tryz.underlying22 (And.intro @fa48_0 (And.intro @ag3 (And.intro @sz3 (And.intro @zd3 (And.intro @sz45 (And.intro @zd45 (And.intro @ag45 (And.intro @zp45 (And.intro @fa45_1 (And.intro @ag9 (And.intro @sz9 (And.intro @zd9 (And.intro @fa48_1 (And.intro @Tryz.underlying46 (And.intro @sz2 (And.intro @zd2 (And.intro @ag2 (And.intro @fa45_0 (And.intro @Tryz.underlying110 (And.intro @zs9 (And.intro @by9 (And.intro @itoaE (And.intro @wTextE (And.intro @pFCheckE (@joinSE))))))))))))))))))))))))))))
theorem pStT_ok : Sound Tryz.prog G0 38 (conT (CB.fn pStTF).toCon) := by
 refine fn_of D38_ok mixed true Tryz.func38 (by decide) rfl _ ?_
 intro args ps r hq hp
 obtain ⟨j, o, l, f, rfl, hj, hx⟩ := stF_inv hq
 obtain ⟨rfl, rfl⟩ := Prod.mk.inj hx
 have hl := hp (l.length ≤ 1099511627776) (by simp)
 have hz := hp (szS l f) (by simp)
 refine ⟨by simp [finP, norefL, PV.noref, nr_map nr_ref, norefL_eq], ?_⟩
 simp only [awpBFn, Tryz.ntmps38, List.length_cons, List.length_nil, Nat.reduceAdd, Nat.reduceSub, List.replicate_succ, List.replicate_zero, List.cons_append, List.nil_append, List.map_cons, List.map_nil]
 by_cases hst : finOk f = true ∧ (l.length : Int) = f.n
 case neg =>
  have hst2 : ¬ stOk l f := hst
  simp -implicitDefEqProofs (maxSteps := 2000000) only [R0, R1, R2, R3, R4, R5, R6, R7, R8, R9, R10, R11, R12, R13, R14, R15, R16, PV.strip, stripL, PV.noref, ri, feedL, feeds, Nat.reduceBEq, Array.toList, ↓reduceIte, forall_const, implies_true, Nat.reduceEqDiff, reduceCtorEq, alP, bxP, bsP, ifP, quiet, riD, bs_l, PV.isRef, plainCell, norefL, PV.scalar, scalarL, PV.cells, PV.solid, PV.one, PV.free, freeL, fillP, splice, Nat.reduceAdd, Nat.reduceMul, Nat.reduceSub, Nat.reduceLeDiff, Nat.reduceLT, Int.reduceToNat, Int.reduceEq, Int.reduceLT, Int.reduceLE, Int.reduceNeg, E0_vc, vaN, PV.avoid, avoidL, Nat.reduceGT, W38, D38, finP, tk48, len48, strip_vI, List.length_map, hst2, RB0]
  refine ⟨by rw [f.hl]; omega, fun _ => by omega, fun h => absurd ?_ hst⟩
  simp only [Bool.or_eq_false_iff, Bool.not_eq_eq_eq_not, Bool.not_false, decide_eq_true_eq] at h
  refine ⟨?_, h.2⟩
  cases hfo : finOk f with
  | true => rfl
  | false => rw [hfo] at h; exact absurd h.1 (by decide)
 have hst2 : stOk l f := hst
 obtain ⟨hf, hn⟩ := hst
 simp -implicitDefEqProofs (maxSteps := 2000000) only [R0, R1, R2, R3, R4, R5, R6, R7, R8, R9, R10, R11, R12, R13, R14, R15, R16, PV.strip, stripL, PV.noref, ri, feedL, feeds, Nat.reduceBEq, Array.toList, ↓reduceIte, forall_const, implies_true, Nat.reduceEqDiff, reduceCtorEq, alP, bxP, bsP, ifP, quiet, riD, bs_l, PV.isRef, plainCell, norefL, PV.scalar, scalarL, PV.cells, PV.solid, PV.one, PV.free, freeL, fillP, splice, Nat.reduceAdd, Nat.reduceMul, Nat.reduceSub, Nat.reduceLeDiff, Nat.reduceLT, Int.reduceToNat, Int.reduceEq, Int.reduceLT, Int.reduceLE, Int.reduceNeg, E0_vc, vaN, PV.avoid, avoidL, Nat.reduceGT, W38, D38, finP, tk48, len48, strip_vI, List.length_map, hst2, hf, hn, RB0]
 refine ⟨by rw [f.hl]; omega, by omega, ?_⟩
 have hf48 : f.n ≤ 48 := by
  simp only [finOk, Bool.and_eq_true, decide_eq_true_eq] at hf; exact hf.1.2
 have hv48 : l.length ≤ f.v.length := by rw [f.hl]; omega
 refine loopB_by (fun i : Nat => [.junk, .sl j (l.map refP) false, .ptr 0 0, .junk, .junk, .junk, .sl 1 (((wordsL l f.v).take i).map vS) true, .junk, .junk, .junk, .junk, .junk, .junk, .junk, .junk, .junk, .junk, .junk, .junk, .junk, .sl j (l.map refP) false, vI f.n, vI i, .junk, .junk, .junk, .junk, .junk, .junk, .junk, .junk, .junk, .junk, .junk, .junk, .junk, .junk, .junk, .junk, .junk, .junk, .junk, .junk, .junk, .junk, .junk, .junk, .junk, .junk, .junk, .junk, .junk, .junk]) (fun _ => [.live (vI f.n :: f.v.map vI)])
  (fun i => i ≤ l.length) (fun i => l.length - i) 0 ?_ ?_ ?_
 ·simp only [RG0, RG1, Nat.reduceAdd, ltL, PV.lt, Blk.lt, Nat.reduceLT, Nat.reduceLeDiff, Wk_rfl, ltL_vI, wk_sl, List.take_zero, List.map_nil]
  trace_state
 ·exact Nat.zero_le _
 intro i hP
 have p1 : i ≤ l.length := hP
 have hJ : (joinB (wordsL l f.v) ⟨#[32]⟩).size ≤ 140737488355328 := by
  have := stB_size l f.v 0 ⟨#[]⟩ hz.1 hz.2
  rw [st_join] at this
  have z : (⟨#[]⟩ : ByteArray).size = 0 := rfl
  have : l.length * 2199023255552 ≤ 48 * 2199023255552 := Nat.mul_le_mul_right _ (by omega)
  omega
 have hwl := words_len hv48
 have hJE := fun o => joinSE (o := o) (xs := (wordsL l f.v).take i) (.inl rfl) ⟨#[32]⟩
 by_cases hi : i < l.length
 case neg =>
  have hi' : ¬ (i : Int) < f.n := by omega
  have ei : (wordsL l f.v).take i = wordsL l f.v := List.take_of_length_le (by omega)
  simp -implicitDefEqProofs (maxSteps := 2000000) only [R0, R1, R2, R3, R4, R5, R6, R7, R8, R9, R10, R11, R12, R13, R14, R15, R16, PV.strip, stripL, PV.noref, ri, feedL, feeds, Nat.reduceBEq, Array.toList, ↓reduceIte, forall_const, implies_true, Nat.reduceEqDiff, reduceCtorEq, alP, bxP, bsP, ifP, quiet, riD, bs_l, PV.isRef, plainCell, norefL, PV.scalar, scalarL, PV.cells, PV.solid, PV.one, PV.free, freeL, fillP, splice, Nat.reduceAdd, Nat.reduceMul, Nat.reduceSub, Nat.reduceLeDiff, Nat.reduceLT, Int.reduceToNat, Int.reduceEq, Int.reduceLT, Int.reduceLE, Int.reduceNeg, E0_vc, vaN, PV.avoid, avoidL, Nat.reduceGT, W38, D38, gd_ref, refP, gd_m, Int.toNat_natCast, List.length_map, hi', hst2, hJE, RB0]
  rw [ei]
  exact ⟨by omega, hJ, by rw [← st_join]; rfl⟩
 have hi' : (i : Int) < f.n := by omega
 have hgi : (vI f.n :: f.v.map vI).getD (1 + i) (vI 0) = vI (f.v.getD i 0) := by
  rw [Nat.add_comm, List.getD_cons_succ, gd_m]
 have hj2 : j = 2 := hj.resolve_right (by rintro rfl; simp at hi)
 have hmem : l.getD i noRef ∈ l := by
  rw [List.getD_eq_getElem?_getD, List.getElem?_eq_getElem hi]; exact List.getElem_mem hi
 have hvm : f.v.getD i 0 ∈ f.v := by
  rw [List.getD_eq_getElem?_getD, List.getElem?_eq_getElem (by omega)]; exact List.getElem_mem (by omega)
 obtain ⟨hr1, hr2, hr3⟩ := hz.1 _ hmem
 have hvi := hz.2 _ hvm
 have hs2 := itoa_size hvi
 have hs3 := itoa_size hr1
 have htk := words_take hi (show i < f.v.length by omega)
 have z2 : (⟨#[61]⟩ : ByteArray).size = 1 := rfl
 have z3 : (⟨#[59]⟩ : ByteArray).size = 1 := rfl
 have z4 : (⟨#[58]⟩ : ByteArray).size = 1 := rfl
 have hro : roomy ((List.take i (wordsL l f.v)).length + 1) 16 = true := by
  have : (List.take i (wordsL l f.v)).length ≤ 48 := by rw [List.length_take]; omega
  unfold roomy; simp; omega
 by_cases ht : (l.getD i noRef).t = -1
 ·have hw : (l.getD i noRef).n ++ ⟨#[61]⟩ ++ itoaB (f.v.getD i 0) ++ ⟨#[59]⟩ = wordB (l.getD i noRef) (f.v.getD i 0) := by
   rw [wordB, refB, if_pos (by omega)]
  simp -implicitDefEqProofs (maxSteps := 2000000) only [R0, R1, R2, R3, R4, R5, R6, R7, R8, R9, R10, R11, R12, R13, R14, R15, R16, PV.strip, stripL, PV.noref, ri, feedL, feeds, Nat.reduceBEq, Array.toList, ↓reduceIte, forall_const, implies_true, Nat.reduceEqDiff, reduceCtorEq, alP, bxP, bsP, ifP, quiet, riD, bs_l, PV.isRef, plainCell, norefL, PV.scalar, scalarL, PV.cells, PV.solid, PV.one, PV.free, freeL, fillP, splice, Nat.reduceAdd, Nat.reduceMul, Nat.reduceSub, Nat.reduceLeDiff, Nat.reduceLT, Int.reduceToNat, Int.reduceEq, Int.reduceLT, Int.reduceLE, Int.reduceNeg, E0_vc, vaN, PV.avoid, avoidL, Nat.reduceGT, W38, D38, gd_ref, refP, gd_m, hgi, Int.toNat_natCast, List.length_map, hi', hst2, ht, rg1, RB0]
  refine ⟨hj2, by omega, .inl (by decide), by omega, by omega, by omega, hvi, ?_, ?_, hro, by unfold inI64; omega, i + 1, by omega, by omega, ?_⟩
  ·simp only [ByteArray.size_append, z2]; omega
  ·simp only [ByteArray.size_append, z2, z3]; omega
  ·rw [htk, List.map_append, hw]
   simp only [RG0, RG1, Nat.reduceAdd, ltL, PV.lt, Blk.lt, Nat.reduceLT, Nat.reduceLeDiff, Wk_rfl, ltL_vI, wk_sl] <;> first | omega | skip
   all_goals trace_state
 have hw : itoaB (l.getD i noRef).t ++ ⟨#[58]⟩ ++ ((l.getD i noRef).n ++ ⟨#[61]⟩ ++ itoaB (f.v.getD i 0) ++ ⟨#[59]⟩) = wordB (l.getD i noRef) (f.v.getD i 0) := by
  rw [wordB, refB, if_neg (by omega)]
  simp only [ByteArray.append_assoc]
 simp -implicitDefEqProofs (maxSteps := 2000000) only [R0, R1, R2, R3, R4, R5, R6, R7, R8, R9, R10, R11, R12, R13, R14, R15, R16, PV.strip, stripL, PV.noref, ri, feedL, feeds, Nat.reduceBEq, Array.toList, ↓reduceIte, forall_const, implies_true, Nat.reduceEqDiff, reduceCtorEq, alP, bxP, bsP, ifP, quiet, riD, bs_l, PV.isRef, plainCell, norefL, PV.scalar, scalarL, PV.cells, PV.solid, PV.one, PV.free, freeL, fillP, splice, Nat.reduceAdd, Nat.reduceMul, Nat.reduceSub, Nat.reduceLeDiff, Nat.reduceLT, Int.reduceToNat, Int.reduceEq, Int.reduceLT, Int.reduceLE, Int.reduceNeg, E0_vc, vaN, PV.avoid, avoidL, Nat.reduceGT, W38, D38, gd_ref, refP, gd_m, hgi, Int.toNat_natCast, List.length_map, hi', hst2, ht, rg1, RB0]
 refine ⟨hj2, by omega, .inl (by decide), by omega, by omega, by omega, hvi, ?_, ?_, hr1, ?_, ?_, hro, by unfold inI64; omega, i + 1, by omega, by omega, ?_⟩
 ·simp only [ByteArray.size_append, z2]; omega
 ·simp only [ByteArray.size_append, z2, z3]; omega
 ·omega
 ·simp only [ByteArray.size_append, z2, z3, z4]; omega
 ·rw [htk, List.map_append, hw]
  simp only [RG0, RG1, Nat.reduceAdd, ltL, PV.lt, Blk.lt, Nat.reduceLT, Nat.reduceLeDiff, Wk_rfl, ltL_vI, wk_sl] <;> first | omega | skip
  all_goals trace_state
end Go.Ve.H
end
