/- weirlaw30.HistTexts: part of the proof (a value semantics for the model's code, and the functions told by it). -/
import Derived.Test.YtdfajmeabnmhjaaGreatDoorA25
import Derived.Ground.SlsfProg
import Derived.Test.YtdfajmeabnmhjaaGreatDoorProg
set_option linter.unusedSimpArgs false
set_option linter.unusedVariables false
set_option linter.deprecated false
set_option linter.unusedSectionVars false
set_option linter.defProp false
section
set_option maxRecDepth 10000
set_option maxHeartbeats 20000000
namespace Go.Ve.H
open Go Go.Proofs Go.Ve
def ansR (l : List Ref) : PV := if l = [] then .sl 0 [] false else .sl 2 (l.map refP) false
def refsF (g : List Node → List Ref) := onc fun c => ([szC c], .tuple (if checkC c = 0 then [ansR (g c), vI 0] else [.sl 0 [] true, vI (checkC c)]))
def rRefsF := refsF fun c => refsD c []
theorem rRefsE {j : Nat} {o : Bool} {c : List Node} (hj : j = 6 ∨ c = []) : rRefsF [.sl j (c.map nodeP) o] = some ([szC c], .tuple (if checkC c = 0 then [ansR (refsD c []), vI 0] else [.sl 0 [] true, vI (checkC c)])) := onc_P hj
structure RfS where
 i : Nat
 l : List Ref
 cap : Nat
def slotR (l : List Ref) (cap : Nat) : PV := match l with
 | [] => .sl 0 [] true
 | _ :: _ => .rs 2 0 0 l.length cap
def blkR (l : List Ref) (cap : Nat) : List Blk := match l with
 | [] => []
 | _ :: _ => [.live (refC l cap)]
theorem slotR_0 (cap : Nat) : slotR [] cap = .sl 0 [] true := rfl
theorem slotR_1 {l : List Ref} (h : ¬ l = []) (cap : Nat) : slotR l cap = .rs 2 0 0 l.length cap := by
 cases l with
 | nil => exact absurd rfl h
 | cons a l => rfl
theorem blkR_0 (cap : Nat) : blkR [] cap = [] := rfl
theorem blkR_1 {l : List Ref} (h : ¬ l = []) (cap : Nat) : blkR l cap = [.live (refC l cap)] := by
 cases l with
 | nil => exact absurd rfl h
 | cons a l => rfl
def totF (F : List PV → Option (List Prop × PV)) (args : List PV) : Option (List Prop × PV) := match F args with
 | some x => some x
 | none => some ([False], .val (.bool false))
theorem totF_ok {F : List PV → Option (List Prop × PV)} {g : FuncId} (h : Sound Tryz.prog G0 g (conT (CB.fn F).toCon)) : Sound Tryz.prog G0 g (conT (CB.fn (totF F)).toCon) := by
 refine h.weaken fun args blks K => ?_
 rintro ⟨r, ⟨ps, h1, h2⟩, hk⟩
 refine ⟨r, ⟨ps, ?_, h2⟩, hk⟩
 unfold totF at h1
 split at h1
 ·rename_i x hx; rw [hx]; exact h1
 ·simp only [Option.some.injEq, Prod.mk.injEq] at h1
  obtain ⟨rfl, _⟩ := h1
  exact (h2 False (by simp)).elim
theorem rBelowX (r x : Ref) : totF rBelowF [.agg [vI r.t, vS r.n], .agg [vI x.t, vS x.n]] = some ([-1 ≤ r.t, -1 ≤ x.t], vT (decide (cmpRef r x < 0))) := rfl
theorem rBelowT0 (x : Ref) : totF rBelowF [.agg [vI 0, .val (.string { data := #[] })], .agg [vI x.t, vS x.n]] = some ([-1 ≤ (0 : Int), -1 ≤ x.t], vT (decide (cmpRef ⟨0, { data := #[] }⟩ x < 0))) := rfl
theorem rBelowTJ (l : List Ref) (cap : Nat) (x : Ref) : totF rBelowF [.agg (stripL (stripL (List.take 2 (List.drop (l.length * 2) (refC l cap))))), .agg [vI x.t, vS x.n]] = some ([False], .val (.bool false)) := by
 have h : List.drop (l.length * 2) (refC l cap) = List.replicate (cap * 2 - (refs2 l).length) .junk := by
  rw [refC_eq]; exact List.drop_left' (refs2_len l)
 rw [h]
 generalize cap * 2 - (refs2 l).length = m
 cases m with
 | zero => rfl
 | succ m => cases m with
  | zero => rfl
  | succ m => rfl
theorem eqi39_0 (a : Int) (n : ByteArray) : eqI Tryz.prog 9 45 (.agg []) (.agg [vI a, vS n]) = none := by kernel_rfl
theorem eqi39_1 (a : Int) (n : ByteArray) : eqI Tryz.prog 9 45 (.agg [.junk]) (.agg [vI a, vS n]) = none := by kernel_rfl
theorem eqi39_2 (a : Int) (n : ByteArray) : eqI Tryz.prog 9 45 (.agg [.junk, .junk]) (.agg [vI a, vS n]) = none := by kernel_rfl
theorem eqJ (l : List Ref) (cap : Nat) (x : Ref) : aggEq Tryz.prog .neq 45 (.agg (stripL (List.take 2 (List.drop (l.length * 2) (refC l cap))))) (.agg [vI x.t, vS x.n]) = none := by
 have h : List.drop (l.length * 2) (refC l cap) = List.replicate (cap * 2 - (refs2 l).length) .junk := by
  rw [refC_eq]; exact List.drop_left' (refs2_len l)
 rw [h]
 generalize cap * 2 - (refs2 l).length = m
 have e : stripL (List.take 2 (List.replicate m PV.junk)) = [] ∨ stripL (List.take 2 (List.replicate m PV.junk)) = [.junk] ∨ stripL (List.take 2 (List.replicate m PV.junk)) = [.junk, .junk] := by
  cases m with
  | zero => exact .inl rfl
  | succ m => cases m with
   | zero => exact .inr (.inl rfl)
   | succ m => exact .inr (.inr rfl)
 rcases e with e | e | e <;> rw [e] <;> simp only [aggEq, eqg39, if_true, eqi39_0, eqi39_1, eqi39_2, Option.map_none]
theorem mT (b : Bool) (q : List PV) : mrg true (.val (.bool b)) (.tuple q) = .val (.bool b) := rfl
theorem apP_refs {M : List Blk} {b cap k : Nat} {l : List Ref} {s : Option Tmp} (hM : M[b]? = some (.live (refC l cap))) (hk : k ≤ l.length) (hc : l.length ≤ cap) (hr : l.length ≤ 1024) :
  apP Tryz.prog (some (.slice 45)) (some (.slice 45)) M s (.sl 2 [] true) (.rs 2 b (k * 2) (l.length - k) (cap - k)) = some (.sl 2 ((l.drop k).map refP) true, { strip := s }) := by
 have e1 : ((refC l cap).drop (k * 2)).take ((l.length - k) * 2) = refs2 (l.drop k) := refC_tail hk
 have e2 : l.length - k = (l.drop k).length := by rw [List.length_drop]
 have hsz : sz Tryz.prog 45 = 2 := by kernel_rfl
 have hzs : zsz Tryz.prog 45 = some 2 := by kernel_rfl
 have hby : byt Tryz.prog 45 = 24 := by kernel_rfl
 have hrow : rowOf Tryz.prog 45 (some (.slice 45)) M (.rs 2 b (k * 2) (l.length - k) (cap - k)) = some ((l.drop k).map refP) := by
  simp only [rowOf, hM, hsz, e1]
  rw [if_pos ⟨by rw [refC_len hc]; omega, refs2_plain _⟩, refs2_strip, e2, refs2_chunks]
 have hroom : roomy (([] : List PV).length + ((l.drop k).map refP).length) 24 = true := by
  unfold roomy; simp; omega
 simp only [apP, hrow, hsz, hzs]
 rw [if_pos ⟨by decide, trivial⟩]
 simp only [appP, hsz, hby, hroom]
 simp
theorem ap_r (P : Program) (e e' : TypeId) (s : Option Tmp) (k : Nat) (xs : List PV) (o : Bool) (j b off len cap : Nat) : apB P (some (.slice e)) (some (.slice e')) s (.sl k xs o) (.rs j b off len cap) = none := rfl
theorem blk_one {l : List Ref} {cap k : Nat} (h : k ≤ l.length) (r : Ref) (c1 : Nat) : padded (List.take (k * 2) (refC l cap) ++ stripL (List.flatMap PV.cells [.agg [vI r.t, vS r.n]])) (c1 * 2) = refC (l.take k ++ [r]) c1 := by
 rw [refC_take h, show stripL (List.flatMap PV.cells [.agg [vI r.t, vS r.n]]) = refs2 [r] from rfl, ← refs2_app]; rfl
theorem blk_two {l : List Ref} {cap k : Nat} (h : k ≤ l.length) (r : Ref) {c1 : Nat} (c2 : Nat) : padded (List.take ((k + 1) * 2) (refC (l.take k ++ [r]) c1) ++ stripL (List.flatMap PV.cells ((l.drop k).map refP))) (c2 * 2) = refC (l.take k ++ r :: l.drop k) c2 := by
 have hl : (l.take k ++ [r]).length = k + 1 := by rw [List.length_append, List.length_take, Nat.min_eq_left h]; rfl
 rw [refC_take (by rw [hl]; exact Nat.le_refl _), refs2_flat, List.take_of_length_le (by rw [hl]; exact Nat.le_refl _), ← refs2_app, List.append_assoc]; rfl
theorem zOne39 : zOne Tryz.prog 45 = true := by kernel_rfl
def D28 : FuncId → Option CB
 | 24 => some (.fn rCCheckF)
 | 25 => some (.fn (totF rBelowF))
 | _ => none
theorem D28_ok : AllB E0 D28 := fun g c h => by
 unfold D28 at h
 split at h <;> simp at h <;> subst h
 ·exact rCCheck_ok
 ·exact (totF_ok rBelow_ok)
def W28 := And.intro @Tryz.results28 (And.intro @Tryz.underlying25 (And.intro @sz52 (And.intro @zd52 (And.intro @fa52_0 (And.intro @ag3 (And.intro @sz3 (And.intro @zd3 (And.intro @Tryz.underlying22 (And.intro @sz45 (And.intro @zd45 (And.intro @ag45 (And.intro @fa52_3 (And.intro @eqt45 (And.intro @bin45 (And.intro @bb_ag (And.intro @zs45 (And.intro @by45 (And.intro @rCCheckE (@rBelowE)))))))))))))))))))
theorem rRefs_ok : Sound Tryz.prog G0 28 (conT (CB.fn rRefsF).toCon) := by
 refine fn_frzV (fun _ => [74, 76]) D28_ok mixed true Tryz.func28 (by decide) rfl _ ?_
 intro args ps r hq hp
 obtain ⟨j, o, c, rfl, hj, hx⟩ := onc_inv hq
 obtain ⟨rfl, rfl⟩ := Prod.mk.inj hx
 have hz := hp (szC c) (by simp)
 refine ⟨by simp [norefL, PV.noref, nr_map nr_node], ?_⟩
 simp only [awpBFn, Tryz.ntmps28, List.length_cons, List.length_nil, Nat.reduceAdd, Nat.reduceSub, List.replicate_succ, List.replicate_zero, List.cons_append, List.nil_append, List.map_cons, List.map_nil]
 have hE := fun o => rCCheckE (o := o) hj
 by_cases hck : checkC c = 0
 case neg =>
  simp -implicitDefEqProofs (maxSteps := 2000000) only [R0, R1, R2, R3, R4, R5, R6, R7, R8, R9, R10, R11, R12, R13, R14, R15, R16, PV.strip, stripL, PV.noref, ri, feedL, feeds, Nat.reduceBEq, Array.toList, ↓reduceIte, forall_const, implies_true, Nat.reduceEqDiff, reduceCtorEq, alP, bxP, bsP, ifP, quiet, riD, bs_l, PV.isRef, plainCell, norefL, PV.scalar, scalarL, PV.cells, PV.solid, PV.one, PV.free, freeL, fillP, splice, Nat.reduceAdd, Nat.reduceMul, Nat.reduceSub, Nat.reduceLeDiff, Nat.reduceLT, Int.reduceToNat, Int.reduceEq, Int.reduceLT, Int.reduceLE, Int.reduceNeg, E0_vc, vaN, PV.avoid, avoidL, Nat.reduceGT, W28, D28, List.length_map, hE, hck, RB0]
  exact ⟨hz, rfl⟩
 have hm := checkC_makes hck
 have hl := makesC_ne hm
 have hj6 : j = 6 := hj.resolve_right (by rintro rfl; simp at hl)
 subst hj6
 simp -implicitDefEqProofs (maxSteps := 2000000) only [R0, R1, R2, R3, R4, R5, R6, R7, R8, R9, R10, R11, R12, R13, R14, R15, R16, PV.strip, stripL, PV.noref, ri, feedL, feeds, Nat.reduceBEq, Array.toList, ↓reduceIte, forall_const, implies_true, Nat.reduceEqDiff, reduceCtorEq, alP, bxP, bsP, ifP, quiet, riD, bs_l, PV.isRef, plainCell, norefL, PV.scalar, scalarL, PV.cells, PV.solid, PV.one, PV.free, freeL, fillP, splice, Nat.reduceAdd, Nat.reduceMul, Nat.reduceSub, Nat.reduceLeDiff, Nat.reduceLT, Int.reduceToNat, Int.reduceEq, Int.reduceLT, Int.reduceLE, Int.reduceNeg, E0_vc, vaN, PV.avoid, avoidL, Nat.reduceGT, W28, D28, List.length_map, hE, hck, RB0]
 refine ⟨hz, ?_⟩
 refine loopB_by (fun x : RfS => [.sl 6 (c.map nodeP) false, .junk, .junk, .junk, .junk, slotR x.l x.cap, vI x.i, .junk, .junk, .junk, .junk, .junk, .junk, .junk, .junk, .junk, .junk, .junk, .junk, .junk, .junk, .junk, .junk, .junk, .junk, .junk, .junk, .junk, .junk, .junk, .junk, .junk, .junk, .junk, .junk, .junk, .junk, .junk, .junk, .junk, .junk, .junk, .junk, .junk, .junk, .junk, .junk, .junk, .junk, .junk, .junk, .junk, .junk, .junk, .junk, .junk, .junk, .junk, .junk, .junk, .junk, .junk, .junk, .junk, .junk, .junk, .junk, .junk, .junk, .junk, .junk, .junk, .junk, .junk, .junk, .junk, .junk, .junk]) (fun x => blkR x.l x.cap)
  (fun x => x.i ≤ c.length ∧ x.l.length ≤ x.cap ∧ x.l.length ≤ x.i ∧ refsD (c.drop x.i) x.l = refsD c [] ∧ ∀ r ∈ x.l, -1 ≤ r.t) (fun x => c.length - x.i) ⟨0, [], 0⟩ ?_ ?_ ?_
 ·simp only [RG0, RG1, Nat.reduceAdd, ltL, PV.lt, Blk.lt, Nat.reduceLT, Nat.reduceLeDiff, Wk_rfl, ltL_vI, wk_sl, slotR_0, blkR_0]
 ·exact ⟨by simp only; omega, by simp, by simp, rfl, by simp⟩
 intro x hP
 obtain ⟨i, l, cap⟩ := x
 have q1 : i ≤ c.length := hP.1
 have q2 : l.length ≤ cap := hP.2.1
 have q3 : l.length ≤ i := hP.2.2.1
 have q4 : refsD (c.drop i) l = refsD c [] := hP.2.2.2.1
 have q5 : ∀ r ∈ l, -1 ≤ r.t := hP.2.2.2.2
 by_cases hi : i < c.length
 case neg =>
  have hi2 : ¬ (i : Int) < c.length := by omega
  have he : refsD c [] = l := by rw [← q4, List.drop_eq_nil_of_le (by omega)]; rfl
  by_cases hl0 : l = []
  ·subst hl0
   simp -implicitDefEqProofs (maxSteps := 2000000) only [R0, R1, R2, R3, R4, R5, R6, R7, R8, R9, R10, R11, R12, R13, R14, R15, R16, PV.strip, stripL, PV.noref, ri, feedL, feeds, Nat.reduceBEq, Array.toList, ↓reduceIte, forall_const, implies_true, Nat.reduceEqDiff, reduceCtorEq, alP, bxP, bsP, ifP, quiet, riD, bs_l, PV.isRef, plainCell, norefL, PV.scalar, scalarL, PV.cells, PV.solid, PV.one, PV.free, freeL, fillP, splice, Nat.reduceAdd, Nat.reduceMul, Nat.reduceSub, Nat.reduceLeDiff, Nat.reduceLT, Int.reduceToNat, Int.reduceEq, Int.reduceLT, Int.reduceLE, Int.reduceNeg, E0_vc, vaN, PV.avoid, avoidL, Nat.reduceGT, W28, D28, gd_node, nodeP, List.length_map, Int.toNat_natCast, hi2, slotR_0, blkR_0, he, RB0]
   exact ⟨rfl, rfl⟩
  ·have hs1 := slotR_1 hl0 cap
   have hb1 := blkR_1 hl0 cap
   simp -implicitDefEqProofs (maxSteps := 2000000) only [R0, R1, R2, R3, R4, R5, R6, R7, R8, R9, R10, R11, R12, R13, R14, R15, R16, PV.strip, stripL, PV.noref, ri, feedL, feeds, Nat.reduceBEq, Array.toList, ↓reduceIte, forall_const, implies_true, Nat.reduceEqDiff, reduceCtorEq, alP, bxP, bsP, ifP, quiet, riD, bs_l, PV.isRef, plainCell, norefL, PV.scalar, scalarL, PV.cells, PV.solid, PV.one, PV.free, freeL, fillP, splice, Nat.reduceAdd, Nat.reduceMul, Nat.reduceSub, Nat.reduceLeDiff, Nat.reduceLT, Int.reduceToNat, Int.reduceEq, Int.reduceLT, Int.reduceLE, Int.reduceNeg, E0_vc, vaN, PV.avoid, avoidL, Nat.reduceGT, W28, D28, gd_node, nodeP, List.length_map, Int.toNat_natCast, hi2, hs1, hb1, he, RB0]
   have hfr : frz [Blk.live (refC l cap)] 4 (.tuple [.rs 2 0 0 l.length cap, vI 0]) = .tuple [ansR l, vI 0] := by
    rw [ansR, if_neg hl0]; exact frz_pair (M := [.live (refC l cap)]) (b := 0) (cap := cap) (l := l) rfl 0
   exact ⟨hfr, by rw [ansR, if_neg hl0]; rfl⟩
 have hi' : (i : Int) < c.length := by omega
 have hnn : c[i] = c.getD i noNode := by rw [List.getD_eq_getElem?_getD, List.getElem?_eq_getElem hi]; rfl
 have hmem : c.getD i noNode ∈ c := by rw [← hnn]; exact List.getElem_mem hi
 have hgo := refsD_go hi l
 by_cases h2 : (c.getD i noNode).op = 2
 case neg =>
  rw [if_neg h2, q4] at hgo
  by_cases hl0 : l = []
  ·subst hl0
   simp -implicitDefEqProofs (maxSteps := 2000000) only [R0, R1, R2, R3, R4, R5, R6, R7, R8, R9, R10, R11, R12, R13, R14, R15, R16, PV.strip, stripL, PV.noref, ri, feedL, feeds, Nat.reduceBEq, Array.toList, ↓reduceIte, forall_const, implies_true, Nat.reduceEqDiff, reduceCtorEq, alP, bxP, bsP, ifP, quiet, riD, bs_l, PV.isRef, plainCell, norefL, PV.scalar, scalarL, PV.cells, PV.solid, PV.one, PV.free, freeL, fillP, splice, Nat.reduceAdd, Nat.reduceMul, Nat.reduceSub, Nat.reduceLeDiff, Nat.reduceLT, Int.reduceToNat, Int.reduceEq, Int.reduceLT, Int.reduceLE, Int.reduceNeg, E0_vc, vaN, PV.avoid, avoidL, Nat.reduceGT, W28, D28, gd_node, nodeP, List.length_map, Int.toNat_natCast, hi', h2, slotR_0, blkR_0, RB0]
   refine ⟨by omega, by unfold inI64; omega, ⟨i + 1, [], 0⟩, ⟨by simp only; omega, by simp, by simp, hgo.symm, by simp⟩, by simp only; omega, ?_⟩
   simp only [RG0, RG1, Nat.reduceAdd, ltL, PV.lt, Blk.lt, Nat.reduceLT, Nat.reduceLeDiff, Wk_rfl, ltL_vI, wk_sl, slotR_0, blkR_0] <;> omega
  ·have hs1 := slotR_1 hl0 cap
   have hb1 := blkR_1 hl0 cap
   simp -implicitDefEqProofs (maxSteps := 2000000) only [R0, R1, R2, R3, R4, R5, R6, R7, R8, R9, R10, R11, R12, R13, R14, R15, R16, PV.strip, stripL, PV.noref, ri, feedL, feeds, Nat.reduceBEq, Array.toList, ↓reduceIte, forall_const, implies_true, Nat.reduceEqDiff, reduceCtorEq, alP, bxP, bsP, ifP, quiet, riD, bs_l, PV.isRef, plainCell, norefL, PV.scalar, scalarL, PV.cells, PV.solid, PV.one, PV.free, freeL, fillP, splice, Nat.reduceAdd, Nat.reduceMul, Nat.reduceSub, Nat.reduceLeDiff, Nat.reduceLT, Int.reduceToNat, Int.reduceEq, Int.reduceLT, Int.reduceLE, Int.reduceNeg, E0_vc, vaN, PV.avoid, avoidL, Nat.reduceGT, W28, D28, gd_node, nodeP, List.length_map, Int.toNat_natCast, hi', h2, hs1, hb1, RB0]
   refine ⟨by omega, by unfold inI64; omega, ⟨i + 1, l, cap⟩, ⟨by simp only; omega, q2, by simp only; omega, hgo.symm, q5⟩, by simp only; omega, ?_⟩
   simp only [RG0, RG1, Nat.reduceAdd, ltL, PV.lt, Blk.lt, Nat.reduceLT, Nat.reduceLeDiff, Wk_rfl, ltL_vI, wk_sl, hs1, hb1] <;> omega
 rw [if_pos h2, q4] at hgo
 have hrt := (fieldsOk_ref (makesC_fields hm _ hmem) h2).1
 have hll : l.length ≤ 1024 := by omega
 have hroom : ∀ k : Nat, k ≤ 1100 → roomy k 24 = true := fun k hk => by unfold roomy; simp; omega
 generalize hR : (c.getD i noNode).ref = r at *
 by_cases hl0 : l = []
 ·subst hl0
  simp -implicitDefEqProofs (maxSteps := 2000000) only [R0, R1, R2, R3, R4, R5, R6, R7, R8, R9, R10, R11, R12, R13, R14, R15, R16, PV.strip, stripL, PV.noref, ri, feedL, feeds, Nat.reduceBEq, Array.toList, ↓reduceIte, forall_const, implies_true, Nat.reduceEqDiff, reduceCtorEq, alP, bxP, bsP, ifP, quiet, riD, bs_l, PV.isRef, plainCell, norefL, PV.scalar, scalarL, PV.cells, PV.solid, PV.one, PV.free, freeL, fillP, splice, Nat.reduceAdd, Nat.reduceMul, Nat.reduceSub, Nat.reduceLeDiff, Nat.reduceLT, Int.reduceToNat, Int.reduceEq, Int.reduceLT, Int.reduceLE, Int.reduceNeg, E0_vc, vaN, PV.avoid, avoidL, Nat.reduceGT, W28, D28, gd_node, nodeP, List.length_map, Int.toNat_natCast, hi', h2, hR, slotR_0, blkR_0, RB0]
  refine ⟨by omega, ?_⟩
  refine loopB_by (fun x : Nat => [.sl 6 (c.map nodeP) false, .junk, .junk, .junk, .junk, .sl 0 [] true, vI i, vI 0, .junk, .junk, .junk, .junk, .junk, .junk, .junk, .junk, .junk, .junk, .junk, .junk, .junk, .junk, .junk, .junk, .junk, .junk, .junk, .junk, .junk, .junk, .junk, .junk, .junk, .junk, .junk, .junk, .junk, .junk, .junk, .junk, .junk, .junk, .junk, .junk, .junk, .junk, .junk, .junk, .junk, .junk, .junk, .junk, .junk, .junk, .junk, .junk, .junk, .junk, .junk, .junk, .junk, .junk, .junk, .junk, .junk, .junk, .junk, .junk, .junk, .junk, .junk, .junk, .junk, .junk, .junk, .junk, .junk, .junk]) (fun x => []) (fun x => True) (fun x => 0) 0 ?_ trivial ?_
  ·simp only [RG0, RG1, Nat.reduceAdd, ltL, PV.lt, Blk.lt, Nat.reduceLT, Nat.reduceLeDiff, Wk_rfl, ltL_vI, wk_sl]
  intro x hP
  simp -implicitDefEqProofs (maxSteps := 2000000) only [R0, R1, R2, R3, R4, R5, R6, R7, R8, R9, R10, R11, R12, R13, R14, R15, R16, PV.strip, stripL, PV.noref, ri, feedL, feeds, Nat.reduceBEq, Array.toList, ↓reduceIte, forall_const, implies_true, Nat.reduceEqDiff, reduceCtorEq, alP, bxP, bsP, ifP, quiet, riD, bs_l, PV.isRef, plainCell, norefL, PV.scalar, scalarL, PV.cells, PV.solid, PV.one, PV.free, freeL, fillP, splice, Nat.reduceAdd, Nat.reduceMul, Nat.reduceSub, Nat.reduceLeDiff, Nat.reduceLT, Int.reduceToNat, Int.reduceEq, Int.reduceLT, Int.reduceLE, Int.reduceNeg, E0_vc, vaN, PV.avoid, avoidL, Nat.reduceGT, W28, D28, gd_node, nodeP, List.length_map, Int.toNat_natCast, hi', h2, hR, List.getD_nil, rBelowT0, rgA, List.drop_nil, List.take_nil, List.map_nil, RB0]
  have hone : ∀ m : Nat, padded (stripL (List.flatMap PV.cells [.agg [vI r.t, vS r.n]])) (m * 2) = refC [r] m := fun m => rfl
  have htw : ∀ m n : Nat, 1 ≤ m → padded (List.take 2 (refC [r] m) ++ stripL (List.flatMap PV.cells [])) (n * 2) = refC [r] n := fun m n hm => by
   have := refC_take (l := [r]) (cap := m) (k := 1) (Nat.le_refl _)
   rw [show 1 * 2 = 2 from rfl] at this
   rw [this]; rfl
  refine ⟨.inl (by decide), .inl (by decide), hroom 0 (by omega), .inl (by decide), by omega, zOne39, hroom 1 (by omega), fun c1 hc1 => ⟨zOne39, ?_, ?_, rfl, hroom 1 (by omega), fun c2 hc2 => ⟨by unfold inI64; omega, ⟨i + 1, [r], c2⟩, ⟨by simp only; omega, by simpa using hc2, by simp only [List.length_cons, List.length_nil]; omega, hgo.symm, ?_⟩, by simp only; omega, ?_⟩⟩⟩
  ·rw [hone, refC_len (by simpa using hc1)]; exact Nat.le_refl _
  ·rw [hone]; exact refC_avoid _ _ _
  ·intro x hx; rw [List.mem_singleton.1 hx]; exact hrt
  ·simp only [RG0, RG1, Nat.reduceAdd, ltL, PV.lt, Blk.lt, Nat.reduceLT, Nat.reduceLeDiff, Wk_rfl, ltL_vI, wk_sl, hone, htw c1 c2 hc1, slotR_1 (l := [r]) (by simp), blkR_1 (l := [r]) (by simp), List.length_cons, List.length_nil] <;> omega
 ·have hs1 := slotR_1 hl0 cap
  have hb1 := blkR_1 hl0 cap
  simp -implicitDefEqProofs (maxSteps := 2000000) only [R0, R1, R2, R3, R4, R5, R6, R7, R8, R9, R10, R11, R12, R13, R14, R15, R16, PV.strip, stripL, PV.noref, ri, feedL, feeds, Nat.reduceBEq, Array.toList, ↓reduceIte, forall_const, implies_true, Nat.reduceEqDiff, reduceCtorEq, alP, bxP, bsP, ifP, quiet, riD, bs_l, PV.isRef, plainCell, norefL, PV.scalar, scalarL, PV.cells, PV.solid, PV.one, PV.free, freeL, fillP, splice, Nat.reduceAdd, Nat.reduceMul, Nat.reduceSub, Nat.reduceLeDiff, Nat.reduceLT, Int.reduceToNat, Int.reduceEq, Int.reduceLT, Int.reduceLE, Int.reduceNeg, E0_vc, vaN, PV.avoid, avoidL, Nat.reduceGT, W28, D28, gd_node, nodeP, List.length_map, Int.toNat_natCast, hi', h2, hR, hs1, hb1, RB0]
  refine ⟨by omega, ?_⟩
  have hC := refC_len q2
  have hc0 : ¬ 0 = cap := fun h => hl0 (List.length_eq_zero_iff.1 (by omega))
  refine loopB_by (fun k : Nat => [.sl 6 (c.map nodeP) false, .junk, .junk, .junk, .junk, .rs 2 0 0 l.length cap, vI i, vI k, .junk, .junk, .junk, .junk, .junk, .junk, .junk, .junk, .junk, .junk, .junk, .junk, .junk, .junk, .junk, .junk, .junk, .junk, .junk, .junk, .junk, .junk, .junk, .junk, .junk, .junk, .junk, .junk, .junk, .junk, .junk, .junk, .junk, .junk, .junk, .junk, .junk, .junk, .junk, .junk, .junk, .junk, .junk, .junk, .junk, .junk, .junk, .junk, .junk, .junk, .junk, .junk, .junk, .junk, .junk, .junk, .junk, .junk, .junk, .junk, .junk, .junk, .junk, .junk, .junk, .junk, .junk, .junk, .junk, .junk]) (fun x => [.live (refC l cap)]) (fun k => k ≤ l.length ∧ ∀ j, j < k → cmpRef (l.getD j noRef) r < 0) (fun k => l.length - k) 0 ?_ ?_ ?_
  ·simp only [RG0, RG1, Nat.reduceAdd, ltL, PV.lt, Blk.lt, Nat.reduceLT, Nat.reduceLeDiff, Wk_rfl, ltL_vI, wk_sl]
  ·exact ⟨by omega, fun j h => by omega⟩
  intro k hP
  have p1 := hP.1; have p2 := hP.2
  by_cases hk : k < l.length
  ·have hk' : (k : Int) < l.length := by omega
   have hke : ¬ (k : Int) = l.length := by omega
   have hat := refC_at (cap := cap) hk
   have hav := hC
   have hkm : l.getD k noRef ∈ l := by
    rw [List.getD_eq_getElem?_getD, List.getElem?_eq_getElem hk]; exact List.getElem_mem hk
   have hqt := q5 _ hkm
   generalize hQ : l.getD k noRef = q at *
   by_cases hlt : cmpRef q r < 0
   ·simp -implicitDefEqProofs (maxSteps := 2000000) only [R0, R1, R2, R3, R4, R5, R6, R7, R8, R9, R10, R11, R12, R13, R14, R15, R16, PV.strip, stripL, PV.noref, ri, feedL, feeds, Nat.reduceBEq, Array.toList, ↓reduceIte, forall_const, implies_true, Nat.reduceEqDiff, reduceCtorEq, alP, bxP, bsP, ifP, quiet, riD, bs_l, PV.isRef, plainCell, norefL, PV.scalar, scalarL, PV.cells, PV.solid, PV.one, PV.free, freeL, fillP, splice, Nat.reduceAdd, Nat.reduceMul, Nat.reduceSub, Nat.reduceLeDiff, Nat.reduceLT, Int.reduceToNat, Int.reduceEq, Int.reduceLT, Int.reduceLE, Int.reduceNeg, E0_vc, vaN, PV.avoid, avoidL, Nat.reduceGT, W28, D28, gd_node, nodeP, List.length_map, Int.toNat_natCast, hi', h2, hR, hk', hat, hC, hlt, rBelowX, RB0]
    refine ⟨.inl (by decide), by omega, by omega, by omega, hqt, hrt, by unfold inI64; omega, k + 1, ⟨by omega, fun j hj => ?_⟩, by omega, ?_⟩
    ·by_cases hjk : j = k
     ·subst hjk; rw [hQ]; exact hlt
     ·exact p2 j (by omega)
    ·simp only [RG0, RG1, Nat.reduceAdd, ltL, PV.lt, Blk.lt, Nat.reduceLT, Nat.reduceLeDiff, Wk_rfl, ltL_vI, wk_sl] <;> omega
   ·by_cases heq : q = r
    ·subst heq
     simp -implicitDefEqProofs (maxSteps := 2000000) only [R0, R1, R2, R3, R4, R5, R6, R7, R8, R9, R10, R11, R12, R13, R14, R15, R16, PV.strip, stripL, PV.noref, ri, feedL, feeds, Nat.reduceBEq, Array.toList, ↓reduceIte, forall_const, implies_true, Nat.reduceEqDiff, reduceCtorEq, alP, bxP, bsP, ifP, quiet, riD, bs_l, PV.isRef, plainCell, norefL, PV.scalar, scalarL, PV.cells, PV.solid, PV.one, PV.free, freeL, fillP, splice, Nat.reduceAdd, Nat.reduceMul, Nat.reduceSub, Nat.reduceLeDiff, Nat.reduceLT, Int.reduceToNat, Int.reduceEq, Int.reduceLT, Int.reduceLE, Int.reduceNeg, E0_vc, vaN, PV.avoid, avoidL, Nat.reduceGT, W28, D28, gd_node, nodeP, List.length_map, Int.toNat_natCast, hi', h2, hR, hk', hke, hat, hC, hlt, rBelowX, RB0]
     have hin := insR_at (l := l) (k := k) (r := q) p1 p2 (fun _ => by rw [hQ]; exact hlt)
     rw [if_pos ⟨hk, hQ⟩] at hin
     refine ⟨.inl (by decide), by omega, by omega, by omega, hqt, hqt, .inl (by decide), by omega, by omega, by omega, by unfold inI64; omega, ⟨i + 1, l, cap⟩, ⟨by simp only; omega, q2, by simp only; omega, ?_, q5⟩, by simp only; omega, ?_⟩
     ·simp only; rw [hgo, hin]
     ·simp only [RG0, RG1, Nat.reduceAdd, ltL, PV.lt, Blk.lt, Nat.reduceLT, Nat.reduceLeDiff, Wk_rfl, ltL_vI, wk_sl, hs1, hb1] <;> omega
    ·have hkc : ¬ k = cap := by omega
     have hap := fun s => apP_refs (M := [.live (refC l cap)]) (b := 0) (s := s) rfl p1 q2 hll
     simp -implicitDefEqProofs (maxSteps := 2000000) only [R0, R1, R2, R3, R4, R5, R6, R7, R8, R9, R10, R11, R12, R13, R14, R15, R16, PV.strip, stripL, PV.noref, ri, feedL, feeds, Nat.reduceBEq, Array.toList, ↓reduceIte, forall_const, implies_true, Nat.reduceEqDiff, reduceCtorEq, alP, bxP, bsP, ifP, quiet, riD, bs_l, PV.isRef, plainCell, norefL, PV.scalar, scalarL, PV.cells, PV.solid, PV.one, PV.free, freeL, fillP, splice, Nat.reduceAdd, Nat.reduceMul, Nat.reduceSub, Nat.reduceLeDiff, Nat.reduceLT, Int.reduceToNat, Int.reduceEq, Int.reduceLT, Int.reduceLE, Int.reduceNeg, E0_vc, vaN, PV.avoid, avoidL, Nat.reduceGT, W28, D28, gd_node, nodeP, List.length_map, Int.toNat_natCast, hi', h2, hR, hk', hke, hkc, hap, hat, hC, hlt, rBelowX, heq, ap_r, hc0, Nat.sub_zero, rgA, RB0]
     have hin := insR_at (l := l) (k := k) (r := r) p1 p2 (fun _ => by rw [hQ]; exact hlt)
     rw [if_neg (fun h => heq (by rw [← hQ]; exact h.2))] at hin
     have hb2 := fun m => blk_one (cap := cap) p1 r m
     have hb3 := fun m n => blk_two (cap := cap) p1 r (c1 := m) n
     have hnn0 : ¬ l.take k ++ r :: l.drop k = [] := by simp
     have hln : (l.take k ++ r :: l.drop k).length = l.length + 1 := by rw [List.length_append, List.length_take, List.length_cons, List.length_drop]; omega
     have hld : (l.drop k).length = l.length - k := List.length_drop ..
     refine ⟨.inl (by decide), by omega, by omega, by omega, hqt, hrt, .inl (by decide), by omega, by omega, by omega, by omega, .inl (by decide), by omega, by omega, zOne39, refC_avoid _ _ _, rfl, hroom _ (by omega), fun c1 hc1 => ⟨zOne39, ?_, ?_, rfl, hroom _ (by omega), fun c2 hc2 => ⟨by unfold inI64; omega, ⟨i + 1, l.take k ++ r :: l.drop k, c2⟩, ⟨by simp only; omega, by simp only; omega, by simp only; omega, ?_, ?_⟩, by simp only; omega, ?_⟩⟩⟩
     ·rw [hb2, refC_len (by rw [List.length_append, List.length_take]; simp only [List.length_cons, List.length_nil]; omega)]; exact Nat.le_refl _
     ·rw [hb2]; exact refC_avoid _ _ _
     ·simp only; rw [hgo, hin]
     ·intro x hx
      simp only [List.mem_append, List.mem_cons] at hx
      rcases hx with hx | hx | hx
      ·exact q5 x (List.mem_of_mem_take hx)
      ·rw [hx]; exact hrt
      ·exact q5 x (List.mem_of_mem_drop hx)
     ·have hl2 : k + 1 + (l.length - k) = l.length + 1 := by omega
      simp only [RG0, RG1, Nat.reduceAdd, ltL, PV.lt, Blk.lt, Nat.reduceLT, Nat.reduceLeDiff, Wk_rfl, ltL_vI, wk_sl, hb2, hb3, slotR_1 hnn0, blkR_1 hnn0, hln, hld, hl2] <;> omega
  ·have hke : k = l.length := by omega
   subst hke
   have hap := fun s => apP_refs (M := [.live (refC l cap)]) (b := 0) (s := s) rfl (Nat.le_refl _) q2 hll
   have hin := insR_at (l := l) (k := l.length) (r := r) p1 p2 (fun h => absurd h (Nat.lt_irrefl _))
   rw [if_neg (fun h => Nat.lt_irrefl _ h.1)] at hin
   have hb2 := fun m => blk_one (cap := cap) p1 r m
   have hb3 := fun m n => blk_two (cap := cap) p1 r (c1 := m) n
   have hnn0 : ¬ l.take l.length ++ r :: l.drop l.length = [] := by simp
   have hln : (l.take l.length ++ r :: l.drop l.length).length = l.length + 1 := by rw [List.length_append, List.length_take, List.length_cons, List.length_drop]; omega
   simp only [Nat.sub_self, List.drop_length, List.map_nil] at hap hb3 hin hnn0 hln
   have hmem2 : ∀ x ∈ l.take l.length ++ [r], -1 ≤ x.t := fun x hx => by
    simp only [List.mem_append, List.mem_singleton] at hx
    rcases hx with hx | hx
    ·exact q5 x (List.mem_of_mem_take hx)
    ·rw [hx]; exact hrt
   by_cases hkc0 : l.length = cap
   ·have hkc := eq_true hkc0
    simp -implicitDefEqProofs (maxSteps := 2000000) only [R0, R1, R2, R3, R4, R5, R6, R7, R8, R9, R10, R11, R12, R13, R14, R15, R16, PV.strip, stripL, PV.noref, ri, feedL, feeds, Nat.reduceBEq, Array.toList, ↓reduceIte, forall_const, implies_true, Nat.reduceEqDiff, reduceCtorEq, alP, bxP, bsP, ifP, quiet, riD, bs_l, PV.isRef, plainCell, norefL, PV.scalar, scalarL, PV.cells, PV.solid, PV.one, PV.free, freeL, fillP, splice, Nat.reduceAdd, Nat.reduceMul, Nat.reduceSub, Nat.reduceLeDiff, Nat.reduceLT, Int.reduceToNat, Int.reduceEq, Int.reduceLT, Int.reduceLE, Int.reduceNeg, E0_vc, vaN, PV.avoid, avoidL, Nat.reduceGT, W28, D28, gd_node, nodeP, List.length_map, Int.toNat_natCast, hi', h2, hR, Int.lt_irrefl, decide_false, hkc, hC, rBelowTJ, eqJ, arV_n, rc_n, mT, hc0, Nat.sub_zero, Nat.sub_self, rgA, List.take_nil, List.drop_nil, RB0]
    refine ⟨.inl (by decide), .inl (by decide), by omega, hroom _ (by omega), .inl (by decide), by omega, by omega, zOne39, refC_avoid _ _ _, rfl, hroom _ (by omega), fun c1 hc1 => ⟨zOne39, ?_, ?_, rfl, hroom _ (by omega), fun c2 hc2 => ⟨by unfold inI64; omega, ⟨i + 1, l.take l.length ++ [r], c2⟩, ⟨by simp only; omega, by simp only; omega, by simp only; omega, ?_, hmem2⟩, by simp only; omega, ?_⟩⟩⟩
    ·rw [hb2, refC_len (by rw [List.length_append, List.length_take]; simp only [List.length_cons, List.length_nil]; omega)]; exact Nat.le_refl _
    ·rw [hb2]; exact refC_avoid _ _ _
    ·simp only; rw [hgo, hin]
    ·simp only [RG0, RG1, Nat.reduceAdd, ltL, PV.lt, Blk.lt, Nat.reduceLT, Nat.reduceLeDiff, Wk_rfl, ltL_vI, wk_sl, hb2, hb3, slotR_1 hnn0, blkR_1 hnn0, hln] <;> omega
   ·simp -implicitDefEqProofs (maxSteps := 2000000) only [R0, R1, R2, R3, R4, R5, R6, R7, R8, R9, R10, R11, R12, R13, R14, R15, R16, PV.strip, stripL, PV.noref, ri, feedL, feeds, Nat.reduceBEq, Array.toList, ↓reduceIte, forall_const, implies_true, Nat.reduceEqDiff, reduceCtorEq, alP, bxP, bsP, ifP, quiet, riD, bs_l, PV.isRef, plainCell, norefL, PV.scalar, scalarL, PV.cells, PV.solid, PV.one, PV.free, freeL, fillP, splice, Nat.reduceAdd, Nat.reduceMul, Nat.reduceSub, Nat.reduceLeDiff, Nat.reduceLT, Int.reduceToNat, Int.reduceEq, Int.reduceLT, Int.reduceLE, Int.reduceNeg, E0_vc, vaN, PV.avoid, avoidL, Nat.reduceGT, W28, D28, gd_node, nodeP, List.length_map, Int.toNat_natCast, hi', h2, hR, Int.lt_irrefl, decide_false, hkc0, hap, ap_r, hC, rBelowTJ, eqJ, arV_n, rc_n, mT, hc0, Nat.sub_zero, Nat.sub_self, rgA, List.take_nil, List.drop_nil, List.map_nil, RB0]
    refine ⟨.inl (by decide), .inl (by decide), by omega, .inl (by decide), by omega, by omega, zOne39, refC_avoid _ _ _, rfl, hroom _ (by omega), fun c1 hc1 => ⟨zOne39, ?_, ?_, rfl, hroom _ (by omega), fun c2 hc2 => ⟨by unfold inI64; omega, ⟨i + 1, l.take l.length ++ [r], c2⟩, ⟨by simp only; omega, by simp only; omega, by simp only; omega, ?_, hmem2⟩, by simp only; omega, ?_⟩⟩⟩
    ·rw [hb2, refC_len (by rw [List.length_append, List.length_take]; simp only [List.length_cons, List.length_nil]; omega)]; exact Nat.le_refl _
    ·rw [hb2]; exact refC_avoid _ _ _
    ·simp only; rw [hgo, hin]
    ·simp only [RG0, RG1, Nat.reduceAdd, ltL, PV.lt, Blk.lt, Nat.reduceLT, Nat.reduceLeDiff, Wk_rfl, ltL_vI, wk_sl, hb2, hb3, slotR_1 hnn0, blkR_1 hnn0, hln] <;> omega
end Go.Ve.H
end
namespace Go.Proofs
open Go.Shelf
def Tryz.sortR_ren : Go.Shelf.Ren := ⟨fun | 6 => 51 | 15 => 75 | 14 => 74 | 28 => 101 | 29 => 102 | 20 => 93 | 21 => 94 | 22 => 95 | 23 => 96 | 24 => 97 | 25 => 98 | 26 => 99 | 27 => 100 | 46 => 113 | 47 => 114 | 48 => 115 | 49 => 116 | 50 => 117 | 57 => 123 | n => n, fun | 22 => 22 | 24 => 45 | 25 => 96 | 3 => 3 | 39 => 125 | 0 => 0 | 53 => 147 | 55 => 116 | 4 => 4 | 46 => 140 | 45 => 139 | 50 => 144 | 5 => 5 | 9 => 9 | 66 => 158 | 70 => 162 | 76 => 169 | 77 => 170 | n => n, fun | n => n⟩
theorem Tryz.sortR : Go.Proofs.SlLaysF0.n6 Tryz.prog Tryz.sortR_ren := {
 mixed := by kernel_rfl
 f6 := ⟨Tryz.f51.name, by decide, Tryz.func51.trans (congrArg some (by kernel_rfl))⟩
 f14 := ⟨Tryz.f74.name, by decide, Tryz.func74.trans (congrArg some (by kernel_rfl))⟩
 f15 := Tryz.func75.trans (congrArg some (by kernel_rfl))
 f20 := ⟨Tryz.f93.name, by decide, Tryz.func93.trans (congrArg some (by kernel_rfl))⟩
 f21 := ⟨Tryz.f94.name, by decide, Tryz.func94.trans (congrArg some (by kernel_rfl))⟩
 f22 := ⟨Tryz.f95.name, by decide, Tryz.func95.trans (congrArg some (by kernel_rfl))⟩
 f23 := ⟨Tryz.f96.name, by decide, Tryz.func96.trans (congrArg some (by kernel_rfl))⟩
 f24 := ⟨Tryz.f97.name, by decide, Tryz.func97.trans (congrArg some (by kernel_rfl))⟩
 f25 := ⟨Tryz.f98.name, by decide, Tryz.func98.trans (congrArg some (by kernel_rfl))⟩
 f26 := ⟨Tryz.f99.name, by decide, Tryz.func99.trans (congrArg some (by kernel_rfl))⟩
 f27 := ⟨Tryz.f100.name, by decide, Tryz.func100.trans (congrArg some (by kernel_rfl))⟩
 f28 := Tryz.func101.trans (congrArg some (by kernel_rfl))
 f29 := Tryz.func102.trans (congrArg some (by kernel_rfl))
 f46 := ⟨Tryz.f113.name, by decide, Tryz.func113.trans (congrArg some (by kernel_rfl))⟩
 f47 := Tryz.func114.trans (congrArg some (by kernel_rfl))
 f48 := Tryz.func115.trans (congrArg some (by kernel_rfl))
 f49 := ⟨Tryz.f116.name, by decide, Tryz.func116.trans (congrArg some (by kernel_rfl))⟩
 f50 := ⟨Tryz.f117.name, by decide, Tryz.func117.trans (congrArg some (by kernel_rfl))⟩
 f57 := ⟨Tryz.f123.name, by decide, Tryz.func123.trans (congrArg some (by kernel_rfl))⟩
 t0 := Tryz.underlying0
 a0 := Tryz.isAgg0
 z0 := Tryz.sizeOf0
 v0 := Tryz.zeroValue0
 t3 := Tryz.underlying3
 a3 := Tryz.isAgg3
 z3 := Tryz.sizeOf3
 v3 := Tryz.zeroValue3
 t4 := Tryz.underlying4
 a4 := Tryz.isAgg4
 z4 := Tryz.sizeOf4
 v4 := Tryz.zeroValue4
 t5 := Tryz.underlying5
 a5 := Tryz.isAgg5
 z5 := Tryz.sizeOf5
 v5 := Tryz.zeroValue5
 t9 := Tryz.underlying9
 a9 := Tryz.isAgg9
 z9 := Tryz.sizeOf9
 v9 := Tryz.zeroValue9
 t22 := Tryz.underlying22
 a22 := Tryz.isAgg22
 z22 := Tryz.sizeOf22
 v22 := Tryz.zeroValue22
 t25 := Tryz.underlying96
 a25 := Tryz.isAgg96
 z25 := Tryz.sizeOf96
 v25 := Tryz.zeroValue96
 t39 := Tryz.underlying125
 a39 := Tryz.isAgg125
 z39 := Tryz.sizeOf125
 v39 := Tryz.zeroValue125
 t45 := Tryz.underlying139
 a45 := Tryz.isAgg139
 z45 := Tryz.sizeOf139
 v45 := Tryz.zeroValue139
 t46 := Tryz.underlying140
 a46 := Tryz.isAgg140
 z46 := Tryz.sizeOf140
 v46 := Tryz.zeroValue140
 t50 := Tryz.underlying144
 a50 := Tryz.isAgg144
 z50 := Tryz.sizeOf144
 v50 := Tryz.zeroValue144
 t53 := Tryz.underlying147
 a53 := Tryz.isAgg147
 z53 := Tryz.sizeOf147
 v53 := Tryz.zeroValue147
 t55 := Tryz.underlying116
 a55 := Tryz.isAgg116
 z55 := Tryz.sizeOf116
 v55 := Tryz.zeroValue116
 t66 := Tryz.underlying158
 a66 := Tryz.isAgg158
 z66 := Tryz.sizeOf158
 v66 := Tryz.zeroValue158
 t70 := Tryz.underlying162
 a70 := Tryz.isAgg162
 z70 := Tryz.sizeOf162
 v70 := Tryz.zeroValue162
 t76 := Tryz.underlying169
 a76 := Tryz.isAgg169
 z76 := Tryz.sizeOf169
 v76 := Tryz.zeroValue169
 t77 := Tryz.underlying170
 a77 := Tryz.isAgg170
 z77 := Tryz.sizeOf170
 v77 := Tryz.zeroValue170 }
end Go.Proofs
section
set_option maxRecDepth 10000
set_option maxHeartbeats 4000000
namespace Go.Ve.H
open Go Go.Proofs Go.Ve Go.Sort
structure RefK where
 r : Ref
 h : inI64 r.t
instance : Inhabited RefK := ⟨⟨noRef, by unfold inI64; decide⟩⟩
theorem RefK.ext' {a b : RefK} (h : a.r = b.r) : a = b := by
 obtain ⟨a, _⟩ := a; obtain ⟨b, _⟩ := b
 simp only at h; subst h; rfl
def encK (x : RefK) : List Value := [.int .i64 x.r.t, .string x.r.n]
def cmpK (x y : RefK) : Int := cmpRef x.r y.r
theorem cmpRef_anti {a b : Ref} (h : cmpRef a b < 0) : ¬ cmpRef b a < 0 := fun h2 => by
 have := cmpRef_trans h h2
 rw [cmpRef_refl] at this; omega
theorem cmpB_tot : ∀ {a b : List UInt8}, ¬ Lib.compareBytes a b < 0 → ¬ Lib.compareBytes b a < 0 → a = b
 | [], [], _, _ => rfl
 | [], y :: b, h, _ => by simp [Lib.compareBytes] at h
 | x :: a, [], _, h => by simp [Lib.compareBytes] at h
 | x :: a, y :: b, h, h' => by
  unfold Lib.compareBytes at h h'
  by_cases h1 : x < y
  ·rw [if_pos h1] at h; omega
  ·by_cases h2 : y < x
   ·rw [if_pos h2] at h'; omega
   ·rw [if_neg h1, if_neg h2] at h
    rw [if_neg h2, if_neg h1] at h'
    rw [cmpB_tot h h', UInt8.le_antisymm (UInt8.not_lt.1 h2) (UInt8.not_lt.1 h1)]
theorem cmpRef_tot {a b : Ref} (h1 : ¬ cmpRef a b < 0) (h2 : ¬ cmpRef b a < 0) : a = b := by
 unfold cmpRef at h1 h2
 by_cases hd : decide (a.t < 0) ≠ decide (b.t < 0)
 ·exfalso
  rw [if_pos hd] at h1
  rw [if_pos hd.symm] at h2
  by_cases ha : a.t < 0 <;> by_cases hb : b.t < 0
  ·exact hd (by rw [decide_eq_true ha, decide_eq_true hb])
  ·rw [if_neg hb] at h2; omega
  ·rw [if_neg ha] at h1; omega
  ·exact hd (by rw [decide_eq_false ha, decide_eq_false hb])
 ·rw [if_neg hd] at h1
  rw [if_neg (fun h => hd h.symm)] at h2
  by_cases ht : a.t ≠ b.t
  ·rw [if_pos ht] at h1; rw [if_pos (Ne.symm ht)] at h2; omega
  ·rw [if_neg ht] at h1; rw [if_neg (fun h => ht (Ne.symm h))] at h2
   obtain ⟨t, ⟨⟨n⟩⟩⟩ := a
   obtain ⟨t', ⟨⟨n'⟩⟩⟩ := b
   have e1 : t = t' := by simpa using ht
   have e2 : n = n' := cmpB_tot h1 h2
   rw [e1, e2]
theorem ltK (x y : RefK) : ltOf cmpK x y = decide (cmpRef x.r y.r < 0) := rfl
theorem swoK : SWO (ltOf cmpK) := {
 irrefl x := by rw [ltK, cmpRef_refl]; rfl
 trans x y z h1 h2 := by
  rw [ltK, decide_eq_true_eq] at *
  exact cmpRef_trans h1 h2
 ntrans x y z h1 h2 := by
  rw [ltK, decide_eq_false_iff_not] at *
  intro h
  by_cases e : cmpRef z.r y.r < 0
  ·exact h1 (cmpRef_trans h e)
  ·have e2 := cmpRef_tot h2 e
   rw [e2] at h1
   exact h1 h }
theorem totK (x y : RefK) (h1 : ltOf cmpK x y = false) (h2 : ltOf cmpK y x = false) : x = y := by
 rw [ltK, decide_eq_false_iff_not] at *
 exact RefK.ext' (cmpRef_tot h1 h2)
theorem encK_flat : ∀ l : List RefK, (l.flatMap encK).map PV.val = refs2 (l.map RefK.r)
 | [] => rfl
 | x :: l => by rw [List.flatMap_cons, List.map_append, encK_flat l]; rfl
def toK (l : List Ref) (h : ∀ r ∈ l, inI64 r.t) : List RefK := l.pmap RefK.mk h
theorem toK_map : ∀ (l : List Ref) (h : ∀ r ∈ l, inI64 r.t), (toK l h).map RefK.r = l
 | [], _ => rfl
 | r :: l, h => by
  show r :: (toK l (fun x hx => h x (List.mem_cons_of_mem _ hx))).map RefK.r = _
  rw [toK_map l]
def sortRT : PT := fun args M K =>
 (∃ (k : Nat) (own : Bool), args = [.sl k [] own, .func (.func 52) [] []] ∧ K (.tuple []) M) ∨
 ∃ (b cap : Nat) (l : List Ref) (rest : List PV), args = [.rs 2 b 0 l.length cap, .func (.func 52) [] []] ∧ M[b]? = some (.live (refs2 l ++ rest)) ∧ l.length < 4611686018427387904 ∧ (∀ r ∈ l, inI64 r.t) ∧
  ∀ l' : List Ref, l'.Perm l → l'.Pairwise (fun a b => ¬ cmpRef b a < 0) → K (.tuple []) (M.set b (.live (refs2 l' ++ rest)))
theorem sortRT_mono : ∀ args B K K', (∀ r b, K r b → K' r b) → sortRT args B K → sortRT args B K' := by
 intro args M K K' hk h
 rcases h with ⟨k, own, h1, h2⟩ | ⟨b, cap, l, rest, h1, h2, h3, h4, h5⟩
 ·exact .inl ⟨k, own, h1, hk _ _ h2⟩
 ·exact .inr ⟨b, cap, l, rest, h1, h2, h3, h4, fun l' a b => hk _ _ (h5 l' a b)⟩
theorem sortR_ok : Sound Tryz.prog G0 51 sortRT := by
 have hs := Sound.sort (G := G0) Tryz.sortR ⟨_, Tryz.func51, by decide, rfl⟩ 2 (fun w => by kernel_rfl) (fun w => by kernel_rfl) encK (fun _ => rfl) (fun x v hv => by
  simp only [encK, List.mem_cons, List.not_mem_nil, or_false] at hv
  rcases hv with rfl | rfl <;> rfl) cmpK swoK totK 52 (enters_of Tryz.func52 (by kernel_rfl) rfl) _ pBelow_okS (fun x y => ⟨_, pBelowE x.r y.r, fun p hp => by
   simp only [List.mem_cons, List.not_mem_nil, or_false] at hp
   rcases hp with rfl | rfl
   ·exact x.h
   ·exact y.h⟩)
 refine Sound.weaken hs fun args M K h => ?_
 rcases h with ⟨k, own, h1, h2⟩ | ⟨b, cap, l, rest, h1, h2, h3, h4, h5⟩
 ·exact .inl ⟨k, own, h1, h2⟩
 ·have e := toK_map l h4
  have hl : (toK l h4).length = l.length := by rw [← List.length_map (f := RefK.r), e]
  refine .inr ⟨b, cap, toK l h4, rest, by rw [h1, hl], by rw [encK_flat, e]; exact h2, by rw [hl]; exact h3, ?_⟩
  rw [encK_flat]
  refine h5 _ ?_ ?_
  ·have := (List.mergeSort_perm (toK l h4) fun x y => !(ltOf cmpK) y x).map RefK.r
   rw [e] at this; exact this
  ·have hs := List.pairwise_mergeSort (le := fun x y => !(ltOf cmpK) y x) (fun x y z h1 h2 => by
    simp only [Bool.not_eq_true', ltK, decide_eq_false_iff_not] at *
    exact fun h => by
     by_cases e : cmpRef z.r y.r < 0
     ·exact h2 e
     ·have := swoK.ntrans z y x (by rw [ltK, decide_eq_false_iff_not]; exact e) (by rw [ltK, decide_eq_false_iff_not]; exact h1)
      rw [ltK, decide_eq_false_iff_not] at this; exact this h) (fun x y => by
    simp only [Bool.or_eq_true, Bool.not_eq_true', ltK, decide_eq_false_iff_not]
    by_cases e : cmpRef y.r x.r < 0
    ·exact .inr (cmpRef_anti e)
    ·exact .inl e) (toK l h4)
   rw [List.pairwise_map]
   refine hs.imp fun {a b} h => ?_
   simpa only [Bool.not_eq_true', ltK, decide_eq_false_iff_not] using h
end Go.Ve.H
end
section
set_option maxRecDepth 10000
set_option maxHeartbeats 20000000
namespace Go.Ve.H
open Go Go.Proofs Go.Ve
def cmpt : List Ref → List Ref
 | [] => []
 | [a] => [a]
 | a :: b :: l => if a = b then cmpt (b :: l) else a :: cmpt (b :: l)
theorem cmpt_snoc : ∀ (l : List Ref) (x y : Ref), cmpt (l ++ [x, y]) = cmpt (l ++ [x]) ++ (if x = y then [] else [y])
 | [], x, y => by
  simp only [List.nil_append, cmpt]
  by_cases h : x = y
  ·subst h; simp
  ·simp [h]
 | [a], x, y => by
  simp only [List.cons_append, List.nil_append, cmpt]
  by_cases h : a = x <;> by_cases h' : x = y <;> simp [h, h']
 | a :: b :: l, x, y => by
  have := cmpt_snoc (b :: l) x y
  simp only [List.cons_append] at this ⊢
  simp only [cmpt, this]
  by_cases h : a = b <;> simp [h]
theorem take_two {l : List Ref} {m : Nat} (h0 : 0 < m) (h : m < l.length) : l.take (m + 1) = l.take (m - 1) ++ [l.getD (m - 1) noRef, l.getD m noRef] ∧ l.take m = l.take (m - 1) ++ [l.getD (m - 1) noRef] := by
 have g : ∀ i, i < l.length → l.take (i + 1) = l.take i ++ [l.getD i noRef] := fun i hi => by
  rw [List.take_succ, List.getElem?_eq_getElem hi, List.getD_eq_getElem?_getD, List.getElem?_eq_getElem hi]; rfl
 have h1 := g m h
 have h2 := g (m - 1) (by omega)
 rw [show m - 1 + 1 = m by omega] at h2
 refine ⟨?_, h2⟩
 rw [h1, h2, List.append_assoc]; rfl
theorem cmpt_go {l : List Ref} {m : Nat} (h0 : 0 < m) (h : m < l.length) : cmpt (l.take (m + 1)) = cmpt (l.take m) ++ (if l.getD (m - 1) noRef = l.getD m noRef then [] else [l.getD m noRef]) := by
 obtain ⟨h1, h2⟩ := take_two h0 h
 rw [h1, h2, cmpt_snoc]
theorem cmpt_mem : ∀ (l : List Ref) (x : Ref), x ∈ cmpt l ↔ x ∈ l
 | [], x => Iff.rfl
 | [a], x => Iff.rfl
 | a :: b :: l, x => by
  have ih := cmpt_mem (b :: l) x
  unfold cmpt
  split
  ·rename_i h; subst h
   rw [ih]; simp
  ·rw [List.mem_cons, ih, List.mem_cons (a := x) (b := a)]
theorem cmpt_asc : ∀ (l : List Ref), l.Pairwise (fun a b => ¬ cmpRef b a < 0) → ascR (cmpt l)
 | [], _ => .nil
 | [a], _ => List.pairwise_singleton ..
 | a :: b :: l, h => by
  obtain ⟨h1, h2⟩ := List.pairwise_cons.1 h
  have ih := cmpt_asc (b :: l) h2
  unfold cmpt
  split
  ·exact ih
  ·rename_i hne
   refine List.pairwise_cons.2 ⟨fun x hx => ?_, ih⟩
   have hx' := (cmpt_mem (b :: l) x).1 hx
   have hax := h1 x hx'
   have hbx : b = x ∨ ¬ cmpRef x b < 0 := by
    rcases List.mem_cons.1 hx' with e | e
    ·exact .inl e.symm
    ·exact .inr ((List.pairwise_cons.1 h2).1 x e)
   apply Decidable.byContradiction
   intro hn
   have e := cmpRef_tot hn hax
   subst e
   have hba := h1 b (by simp)
   rcases hbx with e | e
   ·exact hne e.symm
   ·exact hne (cmpRef_tot e hba)
theorem refsB_at {l : List Ref} {B : List PV} {k : Nat} (h : k < l.length) : List.take 2 (List.drop (k * 2) (refs2 l ++ B)) = [vI (l.getD k noRef).t, vS (l.getD k noRef).n] := by
 have hn : l[k] = l.getD k noRef := by rw [List.getD_eq_getElem?_getD, List.getElem?_eq_getElem h]; rfl
 rw [List.drop_append_of_le_length (by rw [refs2_len]; omega), refs2_drop, List.drop_eq_getElem_cons h, hn, refs2]
 rfl
theorem refsB_set {l : List Ref} {B : List PV} {k : Nat} (h : k < l.length) (r : Ref) : splice (refs2 l ++ B) (k * 2) [vI r.t, vS r.n] = refs2 (l.set k r) ++ B := by
 have e : k * 2 + 2 = (k + 1) * 2 := by omega
 show List.take (k * 2) (refs2 l ++ B) ++ [vI r.t, vS r.n] ++ List.drop (k * 2 + 2) (refs2 l ++ B) = _
 rw [List.take_append_of_le_length (by rw [refs2_len]; omega), refs2_take, e, List.drop_append_of_le_length (by rw [refs2_len]; omega), refs2_drop, List.set_eq_take_append_cons_drop, if_pos h, refs2_app, refs2]
 simp only [List.append_assoc, List.cons_append, List.nil_append]
structure CpS where
 j : Nat
 k : Nat
 cur : List Ref
def compT : PT := fun args M K =>
 (∃ (k : Nat) (own : Bool), args = [.sl k [] own] ∧ M = [] ∧ K (.sl k [] false) M) ∨
 ∃ (cap : Nat) (l : List Ref) (c0 : List PV) (rest : List PV), args = [.rs 2 1 0 l.length cap] ∧ l.length ≤ cap ∧ l.length ≤ 100000 ∧ M = [.live c0, .live (refs2 l ++ rest)] ∧ ∀ rest', K (.rs 2 1 0 (cmpt l).length cap) [.live c0, .live (refs2 (cmpt l) ++ rest')]
theorem compT_mono : ∀ args B K K', (∀ r b, K r b → K' r b) → compT args B K → compT args B K' := by
 intro args M K K' hk h
 rcases h with ⟨k, own, h1, h2, h3⟩ | ⟨cap, l, c0, rest, h1, h2, h3, h4, h5⟩
 ·exact .inl ⟨k, own, h1, h2, hk _ _ h3⟩
 ·exact .inr ⟨cap, l, c0, rest, h1, h2, h3, h4, fun r => hk _ _ (h5 r)⟩
def D53 : FuncId → Option CB := fun _ => none
theorem D53_ok : AllB E0 D53 := fun g c h => by cases h
def W53 := And.intro @Tryz.results53 (And.intro @Tryz.underlying22 (And.intro @sz45 (And.intro @zd45 (And.intro @ag45 (And.intro @eqt45 (And.intro @bin45 (@bb_ag)))))))
theorem comp_ok : Sound Tryz.prog G0 53 compT := by
 refine Sound.weaken (sound_of_awp (D := conD D53) D53_ok.con mixed Tryz.func53 (by decide) rfl) ?_
 intro args M K h
 refine awpBFn_sound (s := true) ?_
 rcases h with ⟨k, own, rfl, rfl, hK⟩ | ⟨cap, l, c0, rest, rfl, hc, hl, rfl, hK⟩
 ·simp only [awpBFn, Tryz.ntmps53, List.length_cons, List.length_nil, Nat.reduceAdd, Nat.reduceSub, List.replicate_succ, List.replicate_zero, List.cons_append, List.nil_append, List.map_cons, List.map_nil]
  simp -implicitDefEqProofs (maxSteps := 2000000) only [R0, R1, R2, R3, R4, R5, R6, R7, R8, R9, R10, R11, R12, R13, R14, R15, R16, PV.strip, stripL, PV.noref, ri, feedL, feeds, Nat.reduceBEq, Array.toList, ↓reduceIte, forall_const, implies_true, Nat.reduceEqDiff, reduceCtorEq, alP, bxP, bsP, ifP, quiet, riD, bs_l, PV.isRef, plainCell, norefL, PV.scalar, scalarL, PV.cells, PV.solid, PV.one, PV.free, freeL, fillP, splice, Nat.reduceAdd, Nat.reduceMul, Nat.reduceSub, Nat.reduceLeDiff, Nat.reduceLT, Int.reduceToNat, Int.reduceEq, Int.reduceLT, Int.reduceLE, Int.reduceNeg, E0_vc, vaN, PV.avoid, avoidL, Nat.reduceGT, W53, RB0]
  exact hK
 simp only [awpBFn, Tryz.ntmps53, List.length_cons, List.length_nil, Nat.reduceAdd, Nat.reduceSub, List.replicate_succ, List.replicate_zero, List.cons_append, List.nil_append, List.map_cons, List.map_nil]
 by_cases h2 : l.length < 2
 ·have h2' : (l.length : Int) < 2 := by omega
  have he : cmpt l = l := by
   match l, h2 with
   | [], _ => rfl
   | [a], _ => rfl
   | a :: b :: l, h => simp only [List.length_cons] at h; omega
  simp -implicitDefEqProofs (maxSteps := 2000000) only [R0, R1, R2, R3, R4, R5, R6, R7, R8, R9, R10, R11, R12, R13, R14, R15, R16, PV.strip, stripL, PV.noref, ri, feedL, feeds, Nat.reduceBEq, Array.toList, ↓reduceIte, forall_const, implies_true, Nat.reduceEqDiff, reduceCtorEq, alP, bxP, bsP, ifP, quiet, riD, bs_l, PV.isRef, plainCell, norefL, PV.scalar, scalarL, PV.cells, PV.solid, PV.one, PV.free, freeL, fillP, splice, Nat.reduceAdd, Nat.reduceMul, Nat.reduceSub, Nat.reduceLeDiff, Nat.reduceLT, Int.reduceToNat, Int.reduceEq, Int.reduceLT, Int.reduceLE, Int.reduceNeg, E0_vc, vaN, PV.avoid, avoidL, Nat.reduceGT, W53, h2', RB0]
  have := hK rest
  rw [he] at this; exact this
 have h2' : ¬ (l.length : Int) < 2 := by omega
 simp -implicitDefEqProofs (maxSteps := 2000000) only [R0, R1, R2, R3, R4, R5, R6, R7, R8, R9, R10, R11, R12, R13, R14, R15, R16, PV.strip, stripL, PV.noref, ri, feedL, feeds, Nat.reduceBEq, Array.toList, ↓reduceIte, forall_const, implies_true, Nat.reduceEqDiff, reduceCtorEq, alP, bxP, bsP, ifP, quiet, riD, bs_l, PV.isRef, plainCell, norefL, PV.scalar, scalarL, PV.cells, PV.solid, PV.one, PV.free, freeL, fillP, splice, Nat.reduceAdd, Nat.reduceMul, Nat.reduceSub, Nat.reduceLeDiff, Nat.reduceLT, Int.reduceToNat, Int.reduceEq, Int.reduceLT, Int.reduceLE, Int.reduceNeg, E0_vc, vaN, PV.avoid, avoidL, Nat.reduceGT, W53, h2', RB0]
 refine loopB_by (fun k : Nat => [.rs 2 1 0 l.length cap, .junk, .junk, vI k, .junk, .junk, .junk, .junk, .junk, .junk, .junk, .junk, .junk, .junk, .junk, .junk, .junk, .junk, .junk, .junk, .junk, .junk, .junk, .junk, .junk, .junk, .junk, .junk, .junk, .junk, .junk, .junk, .junk, .junk, .junk, .junk, .junk, .junk, .junk, .junk, .junk, .junk, .junk, .junk, .junk, .junk, .junk, .junk, .junk, .junk, .junk, .junk, .junk, .junk, .junk, .junk, .junk, .junk, .junk, .junk, .junk]) (fun _ => [.live c0, .live (refs2 l ++ rest)]) (fun k => 1 ≤ k ∧ k ≤ l.length ∧ cmpt (l.take k) = l.take k) (fun k => l.length - k) 1 ?_ ?_ ?_
 ·simp only [RG0, RG1, Nat.reduceAdd, ltL, PV.lt, Blk.lt, Nat.reduceLT, Nat.reduceLeDiff, Wk_rfl, ltL_vI, wk_sl]; rfl
 ·refine ⟨by omega, by omega, ?_⟩
  match l with
  | [] => rfl
  | a :: l => rfl
 intro k hP
 have p1 := hP.1; have p2 := hP.2.1; have p3 := hP.2.2
 by_cases hk : k < l.length
 case neg =>
  have hk' : ¬ (k : Int) < l.length := by omega
  have he : cmpt l = l := by
   have : k = l.length := by omega
   rw [this, List.take_length] at p3; exact p3
  simp -implicitDefEqProofs (maxSteps := 2000000) only [R0, R1, R2, R3, R4, R5, R6, R7, R8, R9, R10, R11, R12, R13, R14, R15, R16, PV.strip, stripL, PV.noref, ri, feedL, feeds, Nat.reduceBEq, Array.toList, ↓reduceIte, forall_const, implies_true, Nat.reduceEqDiff, reduceCtorEq, alP, bxP, bsP, ifP, quiet, riD, bs_l, PV.isRef, plainCell, norefL, PV.scalar, scalarL, PV.cells, PV.solid, PV.one, PV.free, freeL, fillP, splice, Nat.reduceAdd, Nat.reduceMul, Nat.reduceSub, Nat.reduceLeDiff, Nat.reduceLT, Int.reduceToNat, Int.reduceEq, Int.reduceLT, Int.reduceLE, Int.reduceNeg, E0_vc, vaN, PV.avoid, avoidL, Nat.reduceGT, W53, hk', RB0]
  have := hK rest
  rw [he] at this; exact this
 have hk' : (k : Int) < l.length := by omega
 have hk1 : ((k : Int) - 1).toNat = k - 1 := by omega
 have a1 := refsB_at (B := rest) hk
 have a2 := refsB_at (B := rest) (show k - 1 < l.length by omega)
 have hgo := cmpt_go (show 0 < k by omega) hk
 by_cases heq : l.getD k noRef = l.getD (k - 1) noRef
 case neg =>
  have heq2 : ¬ l.getD (k - 1) noRef = l.getD k noRef := fun h => heq h.symm
  simp -implicitDefEqProofs (maxSteps := 2000000) only [R0, R1, R2, R3, R4, R5, R6, R7, R8, R9, R10, R11, R12, R13, R14, R15, R16, PV.strip, stripL, PV.noref, ri, feedL, feeds, Nat.reduceBEq, Array.toList, ↓reduceIte, forall_const, implies_true, Nat.reduceEqDiff, reduceCtorEq, alP, bxP, bsP, ifP, quiet, riD, bs_l, PV.isRef, plainCell, norefL, PV.scalar, scalarL, PV.cells, PV.solid, PV.one, PV.free, freeL, fillP, splice, Nat.reduceAdd, Nat.reduceMul, Nat.reduceSub, Nat.reduceLeDiff, Nat.reduceLT, Int.reduceToNat, Int.reduceEq, Int.reduceLT, Int.reduceLE, Int.reduceNeg, E0_vc, vaN, PV.avoid, avoidL, Nat.reduceGT, W53, hk', hk1, a1, a2, heq, Int.toNat_natCast, RB0]
  refine ⟨.inl (by decide), by omega, by rw [List.length_append, refs2_len]; omega, by unfold inI64; omega, by omega, by rw [List.length_append, refs2_len]; omega, by unfold inI64; omega, k + 1, ⟨by omega, by omega, ?_⟩, by omega, ?_⟩
  ·rw [hgo, if_neg heq2, p3, (take_two (show 0 < k by omega) hk).1, (take_two (show 0 < k by omega) hk).2, List.append_assoc]; rfl
  ·simp only [RG0, RG1, Nat.reduceAdd, ltL, PV.lt, Blk.lt, Nat.reduceLT, Nat.reduceLeDiff, Wk_rfl, ltL_vI, wk_sl] <;> omega
 have hkc : ¬ k = cap := by omega
 simp -implicitDefEqProofs (maxSteps := 2000000) only [R0, R1, R2, R3, R4, R5, R6, R7, R8, R9, R10, R11, R12, R13, R14, R15, R16, PV.strip, stripL, PV.noref, ri, feedL, feeds, Nat.reduceBEq, Array.toList, ↓reduceIte, forall_const, implies_true, Nat.reduceEqDiff, reduceCtorEq, alP, bxP, bsP, ifP, quiet, riD, bs_l, PV.isRef, plainCell, norefL, PV.scalar, scalarL, PV.cells, PV.solid, PV.one, PV.free, freeL, fillP, splice, Nat.reduceAdd, Nat.reduceMul, Nat.reduceSub, Nat.reduceLeDiff, Nat.reduceLT, Int.reduceToNat, Int.reduceEq, Int.reduceLT, Int.reduceLE, Int.reduceNeg, E0_vc, vaN, PV.avoid, avoidL, Nat.reduceGT, W53, hk', hk1, a1, a2, heq, hkc, Int.toNat_natCast, RB0]
 refine ⟨.inl (by decide), by omega, by rw [List.length_append, refs2_len]; omega, by unfold inI64; omega, by omega, by rw [List.length_append, refs2_len]; omega, by omega, ?_⟩
 refine loopB_by (fun x : CpS => [.rs 2 1 0 l.length cap, .junk, .junk, vI x.k, .rs 2 1 (k * 2) (l.length - k) (cap - k), vI x.j, .junk, .junk, .junk, .junk, .junk, .junk, .junk, .junk, .junk, .junk, .junk, .junk, .junk, .junk, .junk, .junk, .junk, .junk, .junk, .junk, .junk, .junk, .junk, .junk, .junk, .junk, .junk, .junk, .junk, .junk, .junk, .junk, .junk, .junk, .junk, .junk, .junk, .junk, .junk, .junk, .junk, .junk, .junk, .junk, .junk, .junk, .junk, .junk, .junk, .junk, .junk, .junk, .junk, .junk, .junk]) (fun x => [.live c0, .live (refs2 x.cur ++ rest)])
  (fun x => x.cur.length = l.length ∧ 1 ≤ x.j ∧ k + x.j ≤ l.length ∧ k ≤ x.k ∧ x.k + 1 ≤ k + x.j ∧ x.cur.take x.k = cmpt (l.take (k + x.j)) ∧ ∀ i, k + x.j ≤ i + 1 → x.cur.getD i noRef = l.getD i noRef) (fun x => l.length - x.j) ⟨1, k, l⟩ ?_ ?_ ?_
 ·simp only [RG0, RG1, Nat.reduceAdd, ltL, PV.lt, Blk.lt, Nat.reduceLT, Nat.reduceLeDiff, Wk_rfl, ltL_vI, wk_sl]; rfl
 ·exact ⟨rfl, by simp only; omega, by simp only; omega, by simp only; omega, by simp only; omega, by simp only; rw [hgo, if_pos heq.symm, List.append_nil]; exact p3.symm, fun i _ => rfl⟩
 intro x hP
 obtain ⟨j, m, cur⟩ := x
 have q1 : cur.length = l.length := hP.1
 have q2 : 1 ≤ j := hP.2.1
 have q3 : k + j ≤ l.length := hP.2.2.1
 have q4 : k ≤ m := hP.2.2.2.1
 have q5 : m + 1 ≤ k + j := hP.2.2.2.2.1
 have q6 : cur.take m = cmpt (l.take (k + j)) := hP.2.2.2.2.2.1
 have q7 : ∀ i, k + j ≤ i + 1 → cur.getD i noRef = l.getD i noRef := hP.2.2.2.2.2.2
 have hnk : ((l.length - k : Nat) : Int) = (l.length : Int) - k := by omega
 by_cases hj : k + j < l.length
 case neg =>
  have hj' : ¬ (j : Int) < ((l.length - k : Nat) : Int) := by omega
  have hmc : ¬ m = cap := by omega
  have h0c : ¬ 0 = cap := by omega
  simp -implicitDefEqProofs (maxSteps := 2000000) only [R0, R1, R2, R3, R4, R5, R6, R7, R8, R9, R10, R11, R12, R13, R14, R15, R16, PV.strip, stripL, PV.noref, ri, feedL, feeds, Nat.reduceBEq, Array.toList, ↓reduceIte, forall_const, implies_true, Nat.reduceEqDiff, reduceCtorEq, alP, bxP, bsP, ifP, quiet, riD, bs_l, PV.isRef, plainCell, norefL, PV.scalar, scalarL, PV.cells, PV.solid, PV.one, PV.free, freeL, fillP, splice, Nat.reduceAdd, Nat.reduceMul, Nat.reduceSub, Nat.reduceLeDiff, Nat.reduceLT, Int.reduceToNat, Int.reduceEq, Int.reduceLT, Int.reduceLE, Int.reduceNeg, E0_vc, vaN, PV.avoid, avoidL, Nat.reduceGT, W53, hj', hmc, h0c, Nat.sub_zero, Int.toNat_natCast, RB0]
  have he : cmpt l = cur.take m := by
   have : k + j = l.length := by omega
   rw [q6, this, List.take_length]
  have hlen : (cmpt l).length = m := by rw [he, List.length_take]; omega
  refine ⟨by omega, by kernel_rfl, by kernel_rfl, by rw [List.length_append, refs2_len]; omega, by omega, ?_⟩
  rw [List.take_append_of_le_length (by rw [refs2_len]; omega), refs2_take, ← he, List.append_assoc]
  have := hK (zeros (.agg [vI 0, .val (.string { data := #[] })]) (l.length - m) 2 ++ List.drop (m * 2 + (zeros (.agg [vI 0, .val (.string { data := #[] })]) (l.length - m) 2).length) (refs2 cur ++ rest))
  rw [hlen] at this
  exact this
 have hj' : (j : Int) < ((l.length - k : Nat) : Int) := by omega
 have hj1 : ((j : Int) - 1).toNat = j - 1 := by omega
 have b1 : List.take 2 (List.drop (k * 2 + j * 2) (refs2 cur ++ rest)) = [vI (l.getD (k + j) noRef).t, vS (l.getD (k + j) noRef).n] := by
  rw [← Nat.add_mul, refsB_at (by omega), q7 (k + j) (by omega)]
 have b2 : List.take 2 (List.drop (k * 2 + (j - 1) * 2) (refs2 cur ++ rest)) = [vI (l.getD (k + j - 1) noRef).t, vS (l.getD (k + j - 1) noRef).n] := by
  rw [← Nat.add_mul, show k + (j - 1) = k + j - 1 by omega, refsB_at (by omega), q7 (k + j - 1) (by omega)]
 have hgo2 := cmpt_go (show 0 < k + j by omega) hj
 by_cases heq3 : l.getD (k + j) noRef = l.getD (k + j - 1) noRef
 ·simp -implicitDefEqProofs (maxSteps := 2000000) only [R0, R1, R2, R3, R4, R5, R6, R7, R8, R9, R10, R11, R12, R13, R14, R15, R16, PV.strip, stripL, PV.noref, ri, feedL, feeds, Nat.reduceBEq, Array.toList, ↓reduceIte, forall_const, implies_true, Nat.reduceEqDiff, reduceCtorEq, alP, bxP, bsP, ifP, quiet, riD, bs_l, PV.isRef, plainCell, norefL, PV.scalar, scalarL, PV.cells, PV.solid, PV.one, PV.free, freeL, fillP, splice, Nat.reduceAdd, Nat.reduceMul, Nat.reduceSub, Nat.reduceLeDiff, Nat.reduceLT, Int.reduceToNat, Int.reduceEq, Int.reduceLT, Int.reduceLE, Int.reduceNeg, E0_vc, vaN, PV.avoid, avoidL, Nat.reduceGT, W53, hj', hj1, b1, b2, heq3, Int.toNat_natCast, RB0]
  refine ⟨.inl (by decide), by omega, by rw [List.length_append, refs2_len]; omega, by unfold inI64; omega, by omega, by rw [List.length_append, refs2_len]; omega, by unfold inI64; omega, ⟨j + 1, m, cur⟩, ⟨q1, by simp only; omega, by simp only; omega, q4, by simp only; omega, ?_, fun i hi => q7 i (by simp only at hi; omega)⟩, by simp only; omega, ?_⟩
  ·simp only
   rw [← Nat.add_assoc, hgo2, if_pos heq3.symm, List.append_nil]; exact q6
  ·simp only [RG0, RG1, Nat.reduceAdd, ltL, PV.lt, Blk.lt, Nat.reduceLT, Nat.reduceLeDiff, Wk_rfl, ltL_vI, wk_sl] <;> omega
 ·have b3 := fun r => refsB_set (l := cur) (B := rest) (k := m) (by omega) r
  have heq4 : ¬ l.getD (k + j - 1) noRef = l.getD (k + j) noRef := fun h => heq3 h.symm
  simp -implicitDefEqProofs (maxSteps := 2000000) only [R0, R1, R2, R3, R4, R5, R6, R7, R8, R9, R10, R11, R12, R13, R14, R15, R16, PV.strip, stripL, PV.noref, ri, feedL, feeds, Nat.reduceBEq, Array.toList, ↓reduceIte, forall_const, implies_true, Nat.reduceEqDiff, reduceCtorEq, alP, bxP, bsP, ifP, quiet, riD, bs_l, PV.isRef, plainCell, norefL, PV.scalar, scalarL, PV.cells, PV.solid, PV.one, PV.free, freeL, fillP, splice, Nat.reduceAdd, Nat.reduceMul, Nat.reduceSub, Nat.reduceLeDiff, Nat.reduceLT, Int.reduceToNat, Int.reduceEq, Int.reduceLT, Int.reduceLE, Int.reduceNeg, E0_vc, vaN, PV.avoid, avoidL, Nat.reduceGT, W53, hj', hj1, b1, b2, heq3, Int.toNat_natCast, RB0]
  refine ⟨.inl (by decide), by omega, by rw [List.length_append, refs2_len]; omega, by unfold inI64; omega, by omega, by rw [List.length_append, refs2_len]; omega, by omega, by rw [List.length_append, refs2_len]; omega, by omega, by rw [List.length_append, refs2_len]; omega, by unfold inI64; omega, by unfold inI64; omega, ⟨j + 1, m + 1, cur.set m (l.getD (k + j) noRef)⟩, ⟨by simp only [List.length_set]; exact q1, by simp only; omega, by simp only; omega, by simp only; omega, by simp only; omega, ?_, fun i hi => ?_⟩, by simp only; omega, ?_⟩
  ·simp only
   rw [← Nat.add_assoc, hgo2, if_neg heq4, ← q6, List.take_succ, List.take_set_of_le (Nat.le_refl _), List.getElem?_set_self (by omega)]; rfl
  ·simp only at hi ⊢
   rw [List.getD_eq_getElem?_getD, List.getElem?_set_ne (by omega), ← List.getD_eq_getElem?_getD]
   exact q7 i (by omega)
  ·have b4 := b3 (l.getD (k + j) noRef)
   simp only [splice, List.length_cons, List.length_nil, Nat.reduceAdd, Nat.zero_add] at b4
   simp only [RG0, RG1, Nat.reduceAdd, ltL, PV.lt, Blk.lt, Nat.reduceLT, Nat.reduceLeDiff, Wk_rfl, ltL_vI, wk_sl, b4] <;> omega
end Go.Ve.H
end
section
set_option maxRecDepth 10000
set_option maxHeartbeats 20000000
namespace Go.Ve.H
open Go Go.Proofs Go.Ve
def askd : List Node → List Ref
 | [] => []
 | n :: c => if n.op = 2 then n.ref :: askd c else askd c
theorem askd_snoc : ∀ (c : List Node) (n : Node), askd (c ++ [n]) = askd c ++ (if n.op = 2 then [n.ref] else [])
 | [], n => by simp only [List.nil_append, askd]
 | m :: c, n => by
  simp only [List.cons_append, askd, askd_snoc c n]
  split <;> rfl
theorem askd_go {c : List Node} {i : Nat} (h : i < c.length) : askd (c.take (i + 1)) = askd (c.take i) ++ (if (c.getD i noNode).op = 2 then [(c.getD i noNode).ref] else []) := by
 rw [List.take_succ, List.getElem?_eq_getElem h, List.getD_eq_getElem?_getD, List.getElem?_eq_getElem h]
 exact askd_snoc _ _
theorem askd_mem : ∀ (c : List Node) (x : Ref), x ∈ askd c ↔ ∃ n ∈ c, n.op = 2 ∧ n.ref = x
 | [], x => by simp [askd]
 | m :: c, x => by
  unfold askd
  split
  ·rename_i h
   simp only [List.mem_cons, askd_mem c x]
   constructor
   ·rintro (rfl | ⟨n, h1, h2⟩)
    ·exact ⟨m, .inl rfl, h, rfl⟩
    ·exact ⟨n, .inr h1, h2⟩
   ·rintro ⟨n, rfl | h1, h2⟩
    ·exact .inl h2.2.symm
    ·exact .inr ⟨n, h1, h2⟩
  ·rename_i h
   simp only [List.mem_cons, askd_mem c x]
   constructor
   ·rintro ⟨n, h1, h2⟩; exact ⟨n, .inr h1, h2⟩
   ·rintro ⟨n, rfl | h1, h2⟩
    ·exact absurd h2.1 h
    ·exact ⟨n, h1, h2⟩
theorem refsD_mem : ∀ (c : List Node) (l : List Ref) (x : Ref), x ∈ refsD c l ↔ x ∈ askd c ∨ x ∈ l
 | [], l, x => by simp [refsD, askd]
 | m :: c, l, x => by
  unfold refsD askd
  rw [refsD_mem]
  split
  ·rw [insR_mem, List.mem_cons, or_assoc, or_left_comm]
  ·exact Iff.rfl
theorem insR_asc : ∀ {l : List Ref} {r : Ref}, ascR l → ascR (insR l r)
 | [], r, _ => List.pairwise_singleton ..
 | q :: l, r, h => by
  obtain ⟨h1, h2⟩ := List.pairwise_cons.1 h
  unfold insR
  split
  ·rename_i hlt
   refine List.pairwise_cons.2 ⟨fun x hx => ?_, insR_asc h2⟩
   rcases (insR_mem l r x).1 hx with rfl | hx
   ·exact hlt
   ·exact h1 x hx
  ·split
   ·exact h
   ·rename_i hlt hne
    have hrq : cmpRef r q < 0 := by
     apply Decidable.byContradiction
     intro hn
     exact hne (cmpRef_tot hlt hn)
    refine List.pairwise_cons.2 ⟨fun x hx => ?_, h⟩
    rcases List.mem_cons.1 hx with rfl | hx
    ·exact hrq
    ·exact cmpRef_trans hrq (h1 x hx)
theorem refsD_asc : ∀ {c : List Node} {l : List Ref}, ascR l → ascR (refsD c l)
 | [], l, h => h
 | m :: c, l, h => by
  unfold refsD
  refine refsD_asc ?_
  split
  ·exact insR_asc h
  ·exact h
theorem refs_one {c : List Node} {l' : List Ref} (hp : l'.Perm (askd c)) (hs : l'.Pairwise fun a b => ¬ cmpRef b a < 0) : cmpt l' = refsD c [] := by
 refine ascR_ext (cmpt_asc l' hs) (refsD_asc List.Pairwise.nil) fun x => ?_
 rw [cmpt_mem, hp.mem_iff, refsD_mem]
 simp
def pRefsF := rRefsF
theorem pRefsE {j : Nat} {o : Bool} {c : List Node} (hj : j = 6 ∨ c = []) : pRefsF [.sl j (c.map nodeP) o] = some ([szC c], .tuple (if checkC c = 0 then [ansR (refsD c []), vI 0] else [.sl 0 [] true, vI (checkC c)])) := onc_P hj
theorem sortRE (Y : Option Yd) (args : List PV) (M : List Blk) (K : PV → List Blk → Prop) : conY Y (Con.gen sortRT sortRT_mono) args M K = sortRT args M K := rfl
theorem compE (Y : Option Yd) (args : List PV) (M : List Blk) (K : PV → List Blk → Prop) : conY Y (Con.gen compT compT_mono) args M K = compT args M K := rfl
theorem ltL_refs2 (n : Nat) : ∀ l : List Ref, ltL n (refs2 l) = true
 | [] => rfl
 | r :: l => by simp only [refs2, ltL, ltL_refs2 n l]; rfl
theorem ltL_app2 (n : Nat) : ∀ a b : List PV, ltL n (a ++ b) = (ltL n a && ltL n b)
 | [], b => rfl
 | x :: a, b => by simp only [List.cons_append, ltL, ltL_app2 n a b, Bool.and_assoc]
theorem ltL_junk (n m : Nat) : ltL n (List.replicate m .junk) = true := by
 induction m with
 | zero => rfl
 | succ m ih => simp only [List.replicate_succ, ltL, ih]; rfl
theorem ltL_refC (n : Nat) (l : List Ref) (cap : Nat) : ltL n (refC l cap) = true := by
 rw [refC_eq, ltL_app2, ltL_refs2, ltL_junk]; rfl
structure RpS where
 i : Nat
 cap : Nat
 n : Node
def nodeC (n : Node) : List PV := [vI n.op, vI n.a, vI n.b, vI n.ref.t, vS n.ref.n, vI n.val]
def slotP (l : List Ref) (cap : Nat) : PV := match l with
 | [] => .sl 0 [] true
 | _ :: _ => .rs 2 1 0 l.length cap
def blkP (n : Node) (l : List Ref) (cap : Nat) : List Blk := match l with
 | [] => []
 | _ :: _ => [.live (nodeC n), .live (refC l cap)]
theorem slotP_0 (cap : Nat) : slotP [] cap = .sl 0 [] true := rfl
theorem slotP_1 {l : List Ref} (h : ¬ l = []) (cap : Nat) : slotP l cap = .rs 2 1 0 l.length cap := by
 cases l with
 | nil => exact absurd rfl h
 | cons a l => rfl
theorem blkP_0 (n : Node) (cap : Nat) : blkP n [] cap = [] := rfl
theorem blkP_1 {n : Node} {l : List Ref} (h : ¬ l = []) (cap : Nat) : blkP n l cap = [.live (nodeC n), .live (refC l cap)] := by
 cases l with
 | nil => exact absurd rfl h
 | cons a l => rfl
def D21 : FuncId → Option CB
 | 50 => some (.fn pCCheckF)
 | 51 => some (.con (.gen sortRT sortRT_mono))
 | 52 => some (.fn pBelowF)
 | 53 => some (.con (.gen compT compT_mono))
 | _ => none
theorem D21_ok : AllB E0 D21 := fun g c h => by
 unfold D21 at h
 split at h <;> simp at h <;> subst h
 ·exact pCCheck_ok
 ·exact sortR_ok
 ·exact pBelow_ok
 ·exact comp_ok
def W21 := And.intro @Tryz.results21 (And.intro @Tryz.underlying25 (And.intro @sz52 (And.intro @zd52 (And.intro @ag52 (And.intro @zp52 (And.intro @fa52_0 (And.intro @ag3 (And.intro @sz3 (And.intro @zd3 (And.intro @fa52_3 (And.intro @ag45 (And.intro @sz45 (And.intro @Tryz.underlying22 (And.intro @zs45 (And.intro @by45 (And.intro @pCCheckE (And.intro @sortRE (And.intro @pBelowE (@compE)))))))))))))))))))
theorem pRefs_ok : Sound Tryz.prog G0 21 (conT (CB.fn pRefsF).toCon) := by
 refine fn_frzV (fun _ => [26]) D21_ok mixed true Tryz.func21 (by decide) rfl _ ?_
 intro args ps r hq hp
 obtain ⟨j, o, c, rfl, hj, hx⟩ := onc_inv hq
 obtain ⟨rfl, rfl⟩ := Prod.mk.inj hx
 have hz := hp (szC c) (by simp)
 refine ⟨by simp [norefL, PV.noref, nr_map nr_node], ?_⟩
 simp only [awpBFn, Tryz.ntmps21, List.length_cons, List.length_nil, Nat.reduceAdd, Nat.reduceSub, List.replicate_succ, List.replicate_zero, List.cons_append, List.nil_append, List.map_cons, List.map_nil]
 have hE := fun o => pCCheckE (o := o) hj
 by_cases hck : checkC c = 0
 case neg =>
  simp -implicitDefEqProofs (maxSteps := 2000000) only [R0, R1, R2, R3, R4, R5, R6, R7, R8, R9, R10, R11, R12, R13, R14, R15, R16, PV.strip, stripL, PV.noref, ri, feedL, feeds, Nat.reduceBEq, Array.toList, ↓reduceIte, forall_const, implies_true, Nat.reduceEqDiff, reduceCtorEq, alP, bxP, bsP, ifP, quiet, riD, bs_l, PV.isRef, plainCell, norefL, PV.scalar, scalarL, PV.cells, PV.solid, PV.one, PV.free, freeL, fillP, splice, Nat.reduceAdd, Nat.reduceMul, Nat.reduceSub, Nat.reduceLeDiff, Nat.reduceLT, Int.reduceToNat, Int.reduceEq, Int.reduceLT, Int.reduceLE, Int.reduceNeg, E0_vc, vaN, PV.avoid, avoidL, Nat.reduceGT, W21, D21, List.length_map, hE, hck, RB0]
  exact ⟨hz, rfl⟩
 have hm := checkC_makes hck
 have hl := makesC_ne hm
 have hj6 : j = 6 := hj.resolve_right (by rintro rfl; simp at hl)
 subst hj6
 simp -implicitDefEqProofs (maxSteps := 2000000) only [R0, R1, R2, R3, R4, R5, R6, R7, R8, R9, R10, R11, R12, R13, R14, R15, R16, PV.strip, stripL, PV.noref, ri, feedL, feeds, Nat.reduceBEq, Array.toList, ↓reduceIte, forall_const, implies_true, Nat.reduceEqDiff, reduceCtorEq, alP, bxP, bsP, ifP, quiet, riD, bs_l, PV.isRef, plainCell, norefL, PV.scalar, scalarL, PV.cells, PV.solid, PV.one, PV.free, freeL, fillP, splice, Nat.reduceAdd, Nat.reduceMul, Nat.reduceSub, Nat.reduceLeDiff, Nat.reduceLT, Int.reduceToNat, Int.reduceEq, Int.reduceLT, Int.reduceLE, Int.reduceNeg, E0_vc, vaN, PV.avoid, avoidL, Nat.reduceGT, W21, D21, List.length_map, hE, hck, RB0]
 refine ⟨hz, ?_⟩
 refine loopB_by (fun x : RpS => [.junk, .junk, .junk, .junk, .junk, slotP (askd (c.take x.i)) x.cap, .junk, .junk, .junk, .junk, .junk, .junk, .junk, .sl 6 (c.map nodeP) false, vI c.length, vI x.i, .junk, .junk, .junk, .junk, .junk, .junk, .junk, .junk, .junk, .junk, .junk, .junk, .junk, .junk, .junk, .junk]) (fun x => blkP x.n (askd (c.take x.i)) x.cap)
  (fun x => x.i ≤ c.length ∧ (askd (c.take x.i)).length ≤ x.cap ∧ (askd (c.take x.i)).length ≤ x.i) (fun x => c.length - x.i) ⟨0, 0, noNode⟩ ?_ ?_ ?_
 ·simp only [RG0, RG1, Nat.reduceAdd, ltL, PV.lt, Blk.lt, Nat.reduceLT, Nat.reduceLeDiff, Wk_rfl, ltL_vI, wk_sl, List.take_zero, askd, slotP_0, blkP_0]
 ·exact ⟨by simp only; omega, by simp [askd], by simp [askd]⟩
 intro x hP
 obtain ⟨i, cap, n0⟩ := x
 have q1 : i ≤ c.length := hP.1
 have q2 : (askd (c.take i)).length ≤ cap := hP.2.1
 have q3 : (askd (c.take i)).length ≤ i := hP.2.2
 have hroom : ∀ k : Nat, k ≤ 1100 → roomy k 24 = true := fun k hk => by unfold roomy; simp; omega
 by_cases hi : i < c.length
 case neg =>
  have hi2 : ¬ (i : Int) < c.length := by omega
  have hic : i = c.length := by omega
  subst hic
  rw [List.take_length] at q2 q3
  by_cases hl0 : askd c = []
  ·simp -implicitDefEqProofs (maxSteps := 2000000) only [R0, R1, R2, R3, R4, R5, R6, R7, R8, R9, R10, R11, R12, R13, R14, R15, R16, PV.strip, stripL, PV.noref, ri, feedL, feeds, Nat.reduceBEq, Array.toList, ↓reduceIte, forall_const, implies_true, Nat.reduceEqDiff, reduceCtorEq, alP, bxP, bsP, ifP, quiet, riD, bs_l, PV.isRef, plainCell, norefL, PV.scalar, scalarL, PV.cells, PV.solid, PV.one, PV.free, freeL, fillP, splice, Nat.reduceAdd, Nat.reduceMul, Nat.reduceSub, Nat.reduceLeDiff, Nat.reduceLT, Int.reduceToNat, Int.reduceEq, Int.reduceLT, Int.reduceLE, Int.reduceNeg, E0_vc, vaN, PV.avoid, avoidL, Nat.reduceGT, W21, D21, gd_node, nodeP, List.length_map, Int.toNat_natCast, Int.lt_irrefl, List.take_length, hl0, slotP_0, blkP_0, RB0]
   have he : refsD c [] = [] := by
    rw [← refs_one (c := c) (l' := []) (by rw [hl0]) .nil]; rfl
   rw [he]
   exact .inl ⟨0, false, rfl, .inl ⟨0, false, rfl, rfl, rfl, rfl⟩⟩
  ·have hs1 := slotP_1 hl0 cap
   have hb1 := blkP_1 (n := n0) hl0 cap
   simp -implicitDefEqProofs (maxSteps := 2000000) only [R0, R1, R2, R3, R4, R5, R6, R7, R8, R9, R10, R11, R12, R13, R14, R15, R16, PV.strip, stripL, PV.noref, ri, feedL, feeds, Nat.reduceBEq, Array.toList, ↓reduceIte, forall_const, implies_true, Nat.reduceEqDiff, reduceCtorEq, alP, bxP, bsP, ifP, quiet, riD, bs_l, PV.isRef, plainCell, norefL, PV.scalar, scalarL, PV.cells, PV.solid, PV.one, PV.free, freeL, fillP, splice, Nat.reduceAdd, Nat.reduceMul, Nat.reduceSub, Nat.reduceLeDiff, Nat.reduceLT, Int.reduceToNat, Int.reduceEq, Int.reduceLT, Int.reduceLE, Int.reduceNeg, E0_vc, vaN, PV.avoid, avoidL, Nat.reduceGT, W21, D21, gd_node, nodeP, List.length_map, Int.toNat_natCast, Int.lt_irrefl, List.take_length, hs1, hb1, RB0]
   have hai : ∀ r ∈ askd c, inI64 r.t := fun r hr => by
    obtain ⟨n, h1, h2, rfl⟩ := (askd_mem c r).1 hr
    have := fieldsOk_ref (makesC_fields hm n h1) h2
    unfold inI64; omega
   refine .inr ⟨1, cap, askd c, _, rfl, rfl, by omega, hai, fun l' hp hs => ?_⟩
   have hpl := hp.length_eq
   refine .inr ⟨cap, l', nodeC n0, _, by rw [hpl], by omega, by omega, rfl, fun rest' => ?_⟩
   rw [refs_one hp hs]
   have hne : ¬ refsD c [] = [] := fun h => by
    have h1 : ∀ x, ¬ x ∈ askd c := fun x hx => by
     have := (refsD_mem c [] x).2 (.inl hx)
     rw [h] at this; simp at this
    cases hcs : askd c with
    | nil => exact hl0 hcs
    | cons a l => exact h1 a (by rw [hcs]; simp)
   have hfr := frz_pair (M := [.live (nodeC n0), .live (refs2 (refsD c []) ++ rest')]) (b := 1) (cap := cap) (l := refsD c []) rfl 0
   refine ⟨?_, by rw [ansR, if_neg hne]; simp [PV.noref, norefL, nr_map nr_ref]⟩
   rw [ansR, if_neg hne]; exact hfr
 have hi' : (i : Int) < c.length := by omega
 have hgo := askd_go hi
 by_cases h2 : (c.getD i noNode).op = 2
 case neg =>
  rw [if_neg h2, List.append_nil] at hgo
  by_cases hl0 : askd (c.take i) = []
  ·simp -implicitDefEqProofs (maxSteps := 2000000) only [R0, R1, R2, R3, R4, R5, R6, R7, R8, R9, R10, R11, R12, R13, R14, R15, R16, PV.strip, stripL, PV.noref, ri, feedL, feeds, Nat.reduceBEq, Array.toList, ↓reduceIte, forall_const, implies_true, Nat.reduceEqDiff, reduceCtorEq, alP, bxP, bsP, ifP, quiet, riD, bs_l, PV.isRef, plainCell, norefL, PV.scalar, scalarL, PV.cells, PV.solid, PV.one, PV.free, freeL, fillP, splice, Nat.reduceAdd, Nat.reduceMul, Nat.reduceSub, Nat.reduceLeDiff, Nat.reduceLT, Int.reduceToNat, Int.reduceEq, Int.reduceLT, Int.reduceLE, Int.reduceNeg, E0_vc, vaN, PV.avoid, avoidL, Nat.reduceGT, W21, D21, gd_node, nodeP, List.length_map, Int.toNat_natCast, hi', h2, hl0, slotP_0, blkP_0, RB0]
   refine ⟨by omega, by unfold inI64; omega, ⟨i + 1, 0, noNode⟩, ⟨by simp only; omega, by simp only; rw [hgo, hl0]; simp, by simp only; rw [hgo, hl0]; simp⟩, by simp only; omega, ?_⟩
   simp only [RG0, RG1, Nat.reduceAdd, ltL, PV.lt, Blk.lt, Nat.reduceLT, Nat.reduceLeDiff, Wk_rfl, ltL_vI, wk_sl, hgo, hl0, slotP_0, blkP_0] <;> omega
  ·have hs1 := slotP_1 hl0 cap
   have hb1 := blkP_1 (n := n0) hl0 cap
   simp -implicitDefEqProofs (maxSteps := 2000000) only [R0, R1, R2, R3, R4, R5, R6, R7, R8, R9, R10, R11, R12, R13, R14, R15, R16, PV.strip, stripL, PV.noref, ri, feedL, feeds, Nat.reduceBEq, Array.toList, ↓reduceIte, forall_const, implies_true, Nat.reduceEqDiff, reduceCtorEq, alP, bxP, bsP, ifP, quiet, riD, bs_l, PV.isRef, plainCell, norefL, PV.scalar, scalarL, PV.cells, PV.solid, PV.one, PV.free, freeL, fillP, splice, Nat.reduceAdd, Nat.reduceMul, Nat.reduceSub, Nat.reduceLeDiff, Nat.reduceLT, Int.reduceToNat, Int.reduceEq, Int.reduceLT, Int.reduceLE, Int.reduceNeg, E0_vc, vaN, PV.avoid, avoidL, Nat.reduceGT, W21, D21, gd_node, nodeP, List.length_map, Int.toNat_natCast, hi', h2, hs1, hb1, RB0]
   refine ⟨by omega, by unfold inI64; omega, ⟨i + 1, cap, n0⟩, ⟨by simp only; omega, by simp only; rw [hgo]; exact q2, by simp only; rw [hgo]; omega⟩, by simp only; omega, ?_⟩
   simp only [RG0, RG1, Nat.reduceAdd, ltL, PV.lt, Blk.lt, Nat.reduceLT, Nat.reduceLeDiff, Wk_rfl, ltL_vI, wk_sl, hgo, hs1, hb1, nodeC, ltL_refC] <;> omega
 rw [if_pos h2] at hgo
 generalize hR : (c.getD i noNode).ref = r at *
 by_cases hl0 : askd (c.take i) = []
 ·simp -implicitDefEqProofs (maxSteps := 2000000) only [R0, R1, R2, R3, R4, R5, R6, R7, R8, R9, R10, R11, R12, R13, R14, R15, R16, PV.strip, stripL, PV.noref, ri, feedL, feeds, Nat.reduceBEq, Array.toList, ↓reduceIte, forall_const, implies_true, Nat.reduceEqDiff, reduceCtorEq, alP, bxP, bsP, ifP, quiet, riD, bs_l, PV.isRef, plainCell, norefL, PV.scalar, scalarL, PV.cells, PV.solid, PV.one, PV.free, freeL, fillP, splice, Nat.reduceAdd, Nat.reduceMul, Nat.reduceSub, Nat.reduceLeDiff, Nat.reduceLT, Int.reduceToNat, Int.reduceEq, Int.reduceLT, Int.reduceLE, Int.reduceNeg, E0_vc, vaN, PV.avoid, avoidL, Nat.reduceGT, W21, D21, gd_node, nodeP, List.length_map, Int.toNat_natCast, hi', h2, hR, hl0, slotP_0, blkP_0, rgA, RB0]
  have hne : ¬ askd (c.take (i + 1)) = [] := by rw [hgo]; simp
  have hl1 : (askd (c.take (i + 1))).length = 1 := by rw [hgo, hl0]; rfl
  have hone : ∀ m : Nat, padded (stripL (List.flatMap PV.cells [.agg [vI r.t, vS r.n]])) (m * 2) = refC (askd (c.take (i + 1))) m := fun m => by rw [hgo, hl0]; rfl
  refine ⟨by omega, zOne39, hroom 1 (by omega), fun c1 hc1 => ⟨by unfold inI64; omega, ⟨i + 1, c1, c.getD i noNode⟩, ⟨by simp only; omega, by simp only; rw [hl1]; exact hc1, by simp only; rw [hl1]; omega⟩, by simp only; omega, ?_⟩⟩
  simp only [RG0, RG1, Nat.reduceAdd, ltL, PV.lt, Blk.lt, Nat.reduceLT, Nat.reduceLeDiff, Wk_rfl, ltL_vI, wk_sl, hone, slotP_1 hne, blkP_1 hne, hl1, nodeC, h2, hR] <;> omega
 ·have hs1 := slotP_1 hl0 cap
  have hb1 := blkP_1 (n := n0) hl0 cap
  have hC := refC_len q2
  simp -implicitDefEqProofs (maxSteps := 2000000) only [R0, R1, R2, R3, R4, R5, R6, R7, R8, R9, R10, R11, R12, R13, R14, R15, R16, PV.strip, stripL, PV.noref, ri, feedL, feeds, Nat.reduceBEq, Array.toList, ↓reduceIte, forall_const, implies_true, Nat.reduceEqDiff, reduceCtorEq, alP, bxP, bsP, ifP, quiet, riD, bs_l, PV.isRef, plainCell, norefL, PV.scalar, scalarL, PV.cells, PV.solid, PV.one, PV.free, freeL, fillP, splice, Nat.reduceAdd, Nat.reduceMul, Nat.reduceSub, Nat.reduceLeDiff, Nat.reduceLT, Int.reduceToNat, Int.reduceEq, Int.reduceLT, Int.reduceLE, Int.reduceNeg, E0_vc, vaN, PV.avoid, avoidL, Nat.reduceGT, W21, D21, gd_node, nodeP, List.length_map, Int.toNat_natCast, hi', h2, hR, hs1, hb1, hC, rgA, RB0]
  have hne : ¬ askd (c.take (i + 1)) = [] := by rw [hgo]; simp
  have hl1 : (askd (c.take (i + 1))).length = (askd (c.take i)).length + 1 := by rw [hgo, List.length_append]; rfl
  have hone : ∀ m : Nat, padded (List.take ((askd (c.take i)).length * 2) (refC (askd (c.take i)) cap) ++ stripL (List.flatMap PV.cells [.agg [vI r.t, vS r.n]])) (m * 2) = refC (askd (c.take (i + 1))) m := fun m => by
   rw [blk_one (Nat.le_refl _), List.take_length, hgo]
  refine ⟨by omega, zOne39, refC_avoid _ _ _, ⟨rfl, rfl, rfl⟩, hroom _ (by omega), fun c1 hc1 => ⟨by unfold inI64; omega, ⟨i + 1, c1, n0⟩, ⟨by simp only; omega, by simp only; rw [hl1]; exact hc1, by simp only; rw [hl1]; omega⟩, by simp only; omega, ?_⟩⟩
  simp only [RG0, RG1, Nat.reduceAdd, ltL, PV.lt, Blk.lt, Nat.reduceLT, Nat.reduceLeDiff, Wk_rfl, ltL_vI, wk_sl, hone, slotP_1 hne, blkP_1 hne, hl1, nodeC, ltL_refC] <;> omega
end Go.Ve.H
end
section
set_option maxRecDepth 10000
set_option maxHeartbeats 20000000
namespace Go.Ve.H
open Go Go.Proofs Go.Ve
def okH (h : Hist) : Bool := isName h.name && decide (1 ≤ h.quant) && decide (h.quant ≤ 3) && okRefs h.refs && okRows h.refs.length 9223372036854775807 none h.rows && decide (checkC h.cond = 0) && (if h.rows = [] then decide (h.refs = []) else (refsD h.cond []).all fun r => decide (r ∈ h.refs))
def checkH (h : Hist) : Int := if okH h = true then 0 else 300
def szH (h : Hist) : Prop := h.name.size ≤ 1099511627776 ∧ szR h.refs ∧ h.rows.length ≤ 1099511627776 ∧ szC h.cond
def ckhF := on1h fun h => ([szH h], vI (checkH h))
def pHCheckF := ckhF
def rHCheckF := ckhF
theorem ckhE {n : ByteArray} {q : Int} {r : List Ref} {s : List Row} {c : List Node} {j1 j2 j3 : Nat} {o1 o2 o3 : Bool} (h1 : j1 = 2 ∨ r = []) (h2 : j2 = 50 ∨ s = []) (h3 : j3 = 6 ∨ c = []) :
  ckhF [.agg [vS n, vI q, .sl j1 (r.map refP) o1, .sl j2 (s.map rowP) o2, .sl j3 (c.map nodeP) o3]] = some ([szH ⟨n, q, r, s, c⟩], vI (checkH ⟨n, q, r, s, c⟩)) := by
 simp only [ckhF, on1h, histD_of _ _ _ h1 h2 h3]
theorem rightWE {n : ByteArray} {q : Int} {r : List Ref} {s : List Row} {c : List Node} {j1 j2 j3 : Nat} {o1 o2 o3 : Bool} (h1 : j1 = 2 ∨ r = []) (h2 : j2 = 50 ∨ s = []) (h3 : j3 = 6 ∨ c = []) :
  rightWF [.agg [vS n, vI q, .sl j1 (r.map refP) o1, .sl j2 (s.map rowP) o2, .sl j3 (c.map nodeP) o3]] = some ([s.length ≤ 1099511627776, r.length ≤ 1099511627776], vT (okRows r.length 9223372036854775807 none s)) := by
 simp only [rightWF, on1h, histD_of _ _ _ h1 h2 h3]
theorem ansR_eq (l : List Ref) : ∃ j, ansR l = .sl j (l.map refP) false ∧ (j = 2 ∨ l = []) := by
 unfold ansR
 by_cases h : l = []
 ·exact ⟨0, by rw [if_pos h, h]; rfl, .inr h⟩
 ·exact ⟨2, by rw [if_neg h], .inl rfl⟩
theorem refsD_len : ∀ (c : List Node) (l : List Ref), (refsD c l).length ≤ c.length + l.length
 | [], l => by simp [refsD]
 | m :: c, l => by
  unfold refsD
  refine Nat.le_trans (refsD_len c _) ?_
  have := insR_len l m.ref
  rw [List.length_cons]
  split <;> omega
theorem checkH_no {h : Hist} (e : okH h = false) : checkH h = 300 := by rw [checkH, e]; rfl
theorem checkH_ok {h : Hist} (e : okH h = true) : checkH h = 0 := by rw [checkH, if_pos e]
def D11 : FuncId → Option CB
 | 18 => some (.fn pNameF)
 | 19 => some (.fn rightRF)
 | 20 => some (.fn rightWF)
 | 21 => some (.fn pRefsF)
 | 22 => some (.fn contF)
 | _ => none
theorem D11_ok : AllB E0 D11 := fun g c h => by
 unfold D11 at h
 split at h <;> simp at h <;> subst h
 ·exact pName_ok
 ·exact rightR_ok
 ·exact rightW_ok
 ·exact pRefs_ok
 ·exact cont_ok
def W11 := And.intro @Tryz.results11 (And.intro @fa27_0 (And.intro @ag9 (And.intro @sz9 (And.intro @zd9 (And.intro @fa27_1 (And.intro @ag3 (And.intro @sz3 (And.intro @zd3 (And.intro @fa27_2 (And.intro @ag22 (And.intro @sz22 (And.intro @zd22 (And.intro @ag27 (And.intro @sz27 (And.intro @fa27_4 (And.intro @ag25 (And.intro @sz25 (And.intro @zd25 (And.intro @fa27_3 (And.intro @ag23 (And.intro @sz23 (And.intro @zd23 (And.intro @Tryz.underlying23 (And.intro @Tryz.underlying22 (And.intro @sz45 (And.intro @zd45 (And.intro @ag45 (And.intro @zp45 (And.intro @pNameE (And.intro @rightRE (And.intro @rightWE (And.intro @pRefsE (@contE)))))))))))))))))))))))))))))))))
theorem pHCheck_ok : Sound Tryz.prog G0 11 (conT (CB.fn pHCheckF).toCon) := by
 refine fn_of D11_ok mixed true Tryz.func11 (by decide) rfl _ ?_
 intro args ps r hq hp
 obtain ⟨p, h, rfl, hh, hx⟩ := on1h_inv hq
 obtain ⟨rfl, rfl⟩ := Prod.mk.inj hx
 have hz := hp (szH h) (by simp)
 refine ⟨by simp only [norefL, nr_hist hh, Bool.and_self], ?_⟩
 simp only [awpBFn, Tryz.ntmps11, List.length_cons, List.length_nil, Nat.reduceAdd, Nat.reduceSub, List.replicate_succ, List.replicate_zero, List.cons_append, List.nil_append, List.map_cons, List.map_nil]
 obtain ⟨j1, o1, j2, o2, j3, o3, rfl, k1, k2, k3⟩ := hh
 have e1 := fun o => rightRE (o := o) k1
 have e2 := fun a b c => rightWE (n := h.name) (q := h.quant) (o1 := a) (o2 := b) (o3 := c) k1 k2 k3
 have e3 := fun o => pRefsE (o := o) k3
 have e4 := fun o t n => contE (o := o) k1 t n
 obtain ⟨n, q, r, s, c⟩ := h
 simp only at e1 e2 e3 e4 k1 k2 k3 hz ⊢
 obtain ⟨z1, z2, z3, z4⟩ := hz
 simp only at z1 z2 z3 z4
 by_cases hck : checkC c = 0
 case neg =>
  have hno : checkH ⟨n, q, r, s, c⟩ = 300 := checkH_no (by unfold okH; rw [decide_eq_false hck]; simp)
  simp -implicitDefEqProofs (maxSteps := 2000000) only [R0, R1, R2, R3, R4, R5, R6, R7, R8, R9, R10, R11, R12, R13, R14, R15, R16, PV.strip, stripL, PV.noref, ri, feedL, feeds, Nat.reduceBEq, Array.toList, ↓reduceIte, forall_const, implies_true, Nat.reduceEqDiff, reduceCtorEq, alP, bxP, bsP, ifP, quiet, riD, bs_l, PV.isRef, plainCell, norefL, PV.scalar, scalarL, PV.cells, PV.solid, PV.one, PV.free, freeL, fillP, splice, Nat.reduceAdd, Nat.reduceMul, Nat.reduceSub, Nat.reduceLeDiff, Nat.reduceLT, Int.reduceToNat, Int.reduceEq, Int.reduceLT, Int.reduceLE, Int.reduceNeg, E0_vc, vaN, PV.avoid, avoidL, Nat.reduceGT, W11, D11, List.length_map, e1, e2, e3, e4, hck, hno, RB0]
  exact ⟨z1, fun _ => z2, fun _ => z3, fun _ => z2.1, fun _ => z4⟩
 have hcl := (makesC_ne (checkC_makes hck)).2
 obtain ⟨ja, hA, hja⟩ := ansR_eq (refsD c [])
 have hsz1 : ∀ b : Bool, (((((isName n = false ∨ q < 1) ∨ 3 < q) ∨ okRefs r = false) ∨ okRows (r.length : Int) 9223372036854775807 none s = false) → checkH ⟨n, q, r, s, c⟩ = 300) := fun b hb => by
  refine checkH_no ?_
  unfold okH
  rcases hb with (((hb | hb) | hb) | hb) | hb
  ·simp [hb]
  ·rw [decide_eq_false (show ¬ 1 ≤ q by omega)]; simp
  ·rw [decide_eq_false (show ¬ q ≤ 3 by omega)]; simp
  ·simp [hb]
  ·simp [hb]
 have hyes : (!isName n || decide (q < 1) || decide (3 < q) || !okRefs r || !okRows (r.length : Int) 9223372036854775807 none s) = false → okH ⟨n, q, r, s, c⟩ = (if s = [] then decide (r = []) else (refsD c []).all fun x => decide (x ∈ r)) := fun hb => by
  simp only [Bool.or_eq_false_iff, decide_eq_false_iff_not, Bool.not_eq_eq_eq_not, Bool.not_false] at hb
  unfold okH
  simp only [hb.1.1.1.1, hb.1.2, hb.2, hck, decide_true, Bool.and_true, Bool.true_and]
  rw [decide_eq_true (show 1 ≤ q by omega), decide_eq_true (show q ≤ 3 by omega)]; rfl
 by_cases hs : s = []
 ·have hs0 : (s.length : Int) = 0 := by rw [hs]; rfl
  have hs1 : ¬ 0 < (s.length : Int) := by omega
  by_cases hr : r = []
  ·have hr0 : ¬ 0 < (r.length : Int) := by rw [hr]; simp
   simp -implicitDefEqProofs (maxSteps := 2000000) only [R0, R1, R2, R3, R4, R5, R6, R7, R8, R9, R10, R11, R12, R13, R14, R15, R16, PV.strip, stripL, PV.noref, ri, feedL, feeds, Nat.reduceBEq, Array.toList, ↓reduceIte, forall_const, implies_true, Nat.reduceEqDiff, reduceCtorEq, alP, bxP, bsP, ifP, quiet, riD, bs_l, PV.isRef, plainCell, norefL, PV.scalar, scalarL, PV.cells, PV.solid, PV.one, PV.free, freeL, fillP, splice, Nat.reduceAdd, Nat.reduceMul, Nat.reduceSub, Nat.reduceLeDiff, Nat.reduceLT, Int.reduceToNat, Int.reduceEq, Int.reduceLT, Int.reduceLE, Int.reduceNeg, E0_vc, vaN, PV.avoid, avoidL, Nat.reduceGT, W11, D11, List.length_map, e1, e2, e3, e4, hck, hA, hs0, hr0, Int.lt_irrefl, decide_false, RB0]
   refine ⟨z1, fun _ => z2, fun _ => z3, fun _ => z2.1, fun hb => by rw [hsz1 true hb], fun hb => ⟨z4, ?_⟩⟩
   have hok : checkH ⟨n, q, r, s, c⟩ = 0 := checkH_ok (by rw [hyes hb, if_pos hs, hr]; rfl)
   refine loopB_by (fun i : Nat => [.junk, .ptr 0 0, .junk, .junk, .junk, .junk, .junk, .junk, .junk, .junk, .junk, .junk, .junk, .junk, .junk, .junk, .junk, .junk, .junk, .junk, .junk, .junk, .junk, .junk, .junk, .junk, .junk, .junk, .junk, .junk, .junk, .junk, .junk, .junk, .junk, .junk, .junk, .junk, .junk, .junk, .junk, .junk, .junk, .junk, .junk, .junk, .junk, .junk, .junk, .junk, .junk, .junk, .sl ja ((refsD c []).map refP) false, vI (refsD c []).length, vI i, .junk, .junk, .junk, .junk, .junk, .junk, .junk, .junk, .junk, .junk, .junk, .junk, .junk, .junk, .junk]) (fun _ => [.live [vS n, vI q, .sl j1 (r.map refP) false, .sl j2 (s.map rowP) false, .sl j3 (c.map nodeP) false]]) (fun i => i ≤ (refsD c []).length) (fun i => (refsD c []).length - i) 0 ?_ ?_ ?_
   ·simp only [RG0, RG1, Nat.reduceAdd, ltL, PV.lt, Blk.lt, Nat.reduceLT, Nat.reduceLeDiff, Wk_rfl, ltL_vI, wk_sl]
   ·omega
   intro i hP
   simp -implicitDefEqProofs (maxSteps := 2000000) only [R0, R1, R2, R3, R4, R5, R6, R7, R8, R9, R10, R11, R12, R13, R14, R15, R16, PV.strip, stripL, PV.noref, ri, feedL, feeds, Nat.reduceBEq, Array.toList, ↓reduceIte, forall_const, implies_true, Nat.reduceEqDiff, reduceCtorEq, alP, bxP, bsP, ifP, quiet, riD, bs_l, PV.isRef, plainCell, norefL, PV.scalar, scalarL, PV.cells, PV.solid, PV.one, PV.free, freeL, fillP, splice, Nat.reduceAdd, Nat.reduceMul, Nat.reduceSub, Nat.reduceLeDiff, Nat.reduceLT, Int.reduceToNat, Int.reduceEq, Int.reduceLT, Int.reduceLE, Int.reduceNeg, E0_vc, vaN, PV.avoid, avoidL, Nat.reduceGT, W11, D11, gd_ref, refP, List.length_map, e1, e2, e3, e4, hck, hA, hs0, hr0, hok, Int.toNat_natCast, Int.lt_irrefl, decide_false, RB0]
   intro hlt
   have hdl := refsD_len c []
   simp only [List.length_nil, Nat.add_zero] at hdl
   refine ⟨hja.resolve_right (by intro e; rw [e] at hlt; simp at hlt; omega), by omega, by unfold inI64; omega, i + 1, by omega, by omega, ?_⟩
   simp only [RG0, RG1, Nat.reduceAdd, ltL, PV.lt, Blk.lt, Nat.reduceLT, Nat.reduceLeDiff, Wk_rfl, ltL_vI, wk_sl] <;> omega
  ·have hrl : 0 < (r.length : Int) := by
    have := List.length_pos_iff.2 hr
    omega
   have hno : checkH ⟨n, q, r, s, c⟩ = 300 := checkH_no (by unfold okH; rw [if_pos hs, decide_eq_false hr]; simp)
   simp -implicitDefEqProofs (maxSteps := 2000000) only [R0, R1, R2, R3, R4, R5, R6, R7, R8, R9, R10, R11, R12, R13, R14, R15, R16, PV.strip, stripL, PV.noref, ri, feedL, feeds, Nat.reduceBEq, Array.toList, ↓reduceIte, forall_const, implies_true, Nat.reduceEqDiff, reduceCtorEq, alP, bxP, bsP, ifP, quiet, riD, bs_l, PV.isRef, plainCell, norefL, PV.scalar, scalarL, PV.cells, PV.solid, PV.one, PV.free, freeL, fillP, splice, Nat.reduceAdd, Nat.reduceMul, Nat.reduceSub, Nat.reduceLeDiff, Nat.reduceLT, Int.reduceToNat, Int.reduceEq, Int.reduceLT, Int.reduceLE, Int.reduceNeg, E0_vc, vaN, PV.avoid, avoidL, Nat.reduceGT, W11, D11, List.length_map, e1, e2, e3, e4, hck, hA, hrl, hs0, hno, RB0]
   exact ⟨z1, fun _ => z2, fun _ => z3, fun _ => z2.1, fun _ => z4⟩
 ·have hsl : 0 < (s.length : Int) := by
   have := List.length_pos_iff.2 hs
   omega
  have hsl2 : ¬ (s.length : Int) = 0 := by omega
  simp -implicitDefEqProofs (maxSteps := 2000000) only [R0, R1, R2, R3, R4, R5, R6, R7, R8, R9, R10, R11, R12, R13, R14, R15, R16, PV.strip, stripL, PV.noref, ri, feedL, feeds, Nat.reduceBEq, Array.toList, ↓reduceIte, forall_const, implies_true, Nat.reduceEqDiff, reduceCtorEq, alP, bxP, bsP, ifP, quiet, riD, bs_l, PV.isRef, plainCell, norefL, PV.scalar, scalarL, PV.cells, PV.solid, PV.one, PV.free, freeL, fillP, splice, Nat.reduceAdd, Nat.reduceMul, Nat.reduceSub, Nat.reduceLeDiff, Nat.reduceLT, Int.reduceToNat, Int.reduceEq, Int.reduceLT, Int.reduceLE, Int.reduceNeg, E0_vc, vaN, PV.avoid, avoidL, Nat.reduceGT, W11, D11, List.length_map, e1, e2, e3, e4, hck, hA, hsl, hsl2, RB0]
  refine ⟨z1, fun _ => z2, fun _ => z3, fun _ => z2.1, fun hb => by rw [hsz1 true hb], fun hb => ⟨z4, ?_⟩⟩
  have hy := hyes hb
  rw [if_neg hs] at hy
  refine loopB_by (fun i : Nat => [.junk, .ptr 0 0, .junk, .junk, .junk, .junk, .junk, .junk, .junk, .junk, .junk, .junk, .junk, .junk, .junk, .junk, .junk, .junk, .junk, .junk, .junk, .junk, .junk, .junk, .junk, .junk, .junk, .junk, .junk, .junk, .junk, .junk, .junk, .junk, .junk, .junk, .junk, .junk, .junk, .junk, .junk, .junk, .junk, .junk, .junk, .junk, .junk, .junk, .junk, .junk, .junk, .junk, .sl ja ((refsD c []).map refP) false, vI (refsD c []).length, vI i, .junk, .junk, .junk, .junk, .junk, .junk, .junk, .junk, .junk, .junk, .junk, .junk, .junk, .junk, .junk]) (fun _ => [.live [vS n, vI q, .sl j1 (r.map refP) false, .sl j2 (s.map rowP) false, .sl j3 (c.map nodeP) false]]) (fun i => i ≤ (refsD c []).length ∧ ∀ j, j < i → (refsD c []).getD j noRef ∈ r) (fun i => (refsD c []).length - i) 0 ?_ ?_ ?_
  ·simp only [RG0, RG1, Nat.reduceAdd, ltL, PV.lt, Blk.lt, Nat.reduceLT, Nat.reduceLeDiff, Wk_rfl, ltL_vI, wk_sl]
  ·exact ⟨by omega, fun j h => by omega⟩
  intro i hP
  have p1 := hP.1; have p2 := hP.2
  simp -implicitDefEqProofs (maxSteps := 2000000) only [R0, R1, R2, R3, R4, R5, R6, R7, R8, R9, R10, R11, R12, R13, R14, R15, R16, PV.strip, stripL, PV.noref, ri, feedL, feeds, Nat.reduceBEq, Array.toList, ↓reduceIte, forall_const, implies_true, Nat.reduceEqDiff, reduceCtorEq, alP, bxP, bsP, ifP, quiet, riD, bs_l, PV.isRef, plainCell, norefL, PV.scalar, scalarL, PV.cells, PV.solid, PV.one, PV.free, freeL, fillP, splice, Nat.reduceAdd, Nat.reduceMul, Nat.reduceSub, Nat.reduceLeDiff, Nat.reduceLT, Int.reduceToNat, Int.reduceEq, Int.reduceLT, Int.reduceLE, Int.reduceNeg, E0_vc, vaN, PV.avoid, avoidL, Nat.reduceGT, W11, D11, gd_ref, refP, List.length_map, e1, e2, e3, e4, hck, hA, hsl, hsl2, Int.toNat_natCast, RB0]
  have hdl := refsD_len c []
  simp only [List.length_nil, Nat.add_zero] at hdl
  refine ⟨fun hlt => ⟨hja.resolve_right (by intro e; rw [e] at hlt; simp at hlt; omega), by omega, z2.1, fun hn => ?_, fun hin => ⟨by unfold inI64; omega, i + 1, ⟨by omega, fun j hj => ?_⟩, by omega, ?_⟩⟩, fun hge => ?_⟩
  ·rw [checkH_no]
   rw [hy]
   apply Bool.eq_false_iff.2
   intro hall
   have := List.all_eq_true.1 hall ((refsD c []).getD i noRef) (by
    rw [List.getD_eq_getElem?_getD, List.getElem?_eq_getElem (by omega)]; exact List.getElem_mem _)
   exact hn (of_decide_eq_true this)
  ·by_cases e : j = i
   ·subst e; exact hin
   ·exact p2 j (by omega)
  ·simp only [RG0, RG1, Nat.reduceAdd, ltL, PV.lt, Blk.lt, Nat.reduceLT, Nat.reduceLeDiff, Wk_rfl, ltL_vI, wk_sl] <;> omega
  ·rw [checkH_ok]
   rw [hy, List.all_eq_true]
   intro x hx
   obtain ⟨j, hj, rfl⟩ := List.mem_iff_getElem.1 hx
   have := p2 j (by omega)
   rw [List.getD_eq_getElem?_getD, List.getElem?_eq_getElem hj] at this
   exact decide_eq_true this
end Go.Ve.H
end
section
set_option maxRecDepth 10000
set_option maxHeartbeats 20000000
namespace Go.Ve.H
open Go Go.Proofs Go.Ve
def D12 : FuncId → Option CB
 | 23 => some (.fn rNameF)
 | 24 => some (.fn rCCheckF)
 | 25 => some (.fn rBelowF)
 | 26 => some (.fn rFCheckF)
 | 27 => some (.fn rCompareF)
 | 28 => some (.fn rRefsF)
 | _ => none
theorem D12_ok : AllB E0 D12 := fun g c h => by
 unfold D12 at h
 split at h <;> simp at h <;> subst h
 ·exact rName_ok
 ·exact rCCheck_ok
 ·exact rBelow_ok
 ·exact rFCheck_ok
 ·exact rCompare_ok
 ·exact rRefs_ok
def W12 := And.intro @Tryz.results12 (And.intro @fa27_0 (And.intro @ag9 (And.intro @sz9 (And.intro @zd9 (And.intro @fa27_1 (And.intro @ag3 (And.intro @sz3 (And.intro @zd3 (And.intro @fa27_2 (And.intro @ag22 (And.intro @sz22 (And.intro @zd22 (And.intro @Tryz.underlying22 (And.intro @fa27_4 (And.intro @ag25 (And.intro @sz25 (And.intro @zd25 (And.intro @sz45 (And.intro @zd45 (And.intro @ag45 (And.intro @zp45 (And.intro @fa45_0 (And.intro @fa45_1 (And.intro @fa27_3 (And.intro @ag23 (And.intro @sz23 (And.intro @zd23 (And.intro @Tryz.underlying23 (And.intro @sz50 (And.intro @zd50 (And.intro @ag50 (And.intro @zp50 (And.intro @fa50_0 (And.intro @ag2 (And.intro @sz2 (And.intro @zd2 (And.intro @fa50_1 (And.intro @ag48 (And.intro @sz48 (And.intro @fa48_0 (And.intro @eqt45 (And.intro @bin45 (And.intro @bb_ag (And.intro @rNameE (And.intro @rCCheckE (And.intro @rBelowE (And.intro @rFCheckE (And.intro @rCompareE (@rRefsE)))))))))))))))))))))))))))))))))))))))))))))))))
theorem rHCheck_ok : Sound Tryz.prog G0 12 (conT (CB.fn rHCheckF).toCon) := by
 refine fn_of D12_ok mixed true Tryz.func12 (by decide) rfl _ ?_
 intro args ps r hq hp
 obtain ⟨p, h, rfl, hh, hx⟩ := on1h_inv hq
 obtain ⟨rfl, rfl⟩ := Prod.mk.inj hx
 have hz := hp (szH h) (by simp)
 refine ⟨by simp only [norefL, nr_hist hh, Bool.and_self], ?_⟩
 simp only [awpBFn, Tryz.ntmps12, List.length_cons, List.length_nil, Nat.reduceAdd, Nat.reduceSub, List.replicate_succ, List.replicate_zero, List.cons_append, List.nil_append, List.map_cons, List.map_nil]
 obtain ⟨j1, o1, j2, o2, j3, o3, rfl, k1, k2, k3⟩ := hh
 have e3 := fun o => rRefsE (o := o) k3
 have e4 := fun o => rCCheckE (o := o) k3
 obtain ⟨n, q, r, s, c⟩ := h
 simp only at e3 e4 k1 k2 k3 hz ⊢
 obtain ⟨z1, z2, z3, z4⟩ := hz
 simp only at z1 z2 z3 z4
 simp -implicitDefEqProofs (maxSteps := 2000000) only [R0, R1, R2, R3, R4, R5, R6, R7, R8, R9, R10, R11, R12, R13, R14, R15, R16, PV.strip, stripL, PV.noref, ri, feedL, feeds, Nat.reduceBEq, Array.toList, ↓reduceIte, forall_const, implies_true, Nat.reduceEqDiff, reduceCtorEq, alP, bxP, bsP, ifP, quiet, riD, bs_l, PV.isRef, plainCell, norefL, PV.scalar, scalarL, PV.cells, PV.solid, PV.one, PV.free, freeL, fillP, splice, Nat.reduceAdd, Nat.reduceMul, Nat.reduceSub, Nat.reduceLeDiff, Nat.reduceLT, Int.reduceToNat, Int.reduceEq, Int.reduceLT, Int.reduceLE, Int.reduceNeg, E0_vc, vaN, PV.avoid, avoidL, Nat.reduceGT, W12, D12, List.length_map, e3, e4, RB0]
 refine ⟨z1, fun _ => z4, fun hb => ?_, fun hb => ?_⟩
 ·rw [checkH_no]
  unfold okH
  rcases hb with (((hb | hb) | hb) | hb) | hb
  ·simp [hb]
  ·rw [decide_eq_false (show ¬ 1 ≤ q by omega)]; simp
  ·rw [decide_eq_false (show ¬ q ≤ 3 by omega)]; simp
  ·have : okRefs r = false := by unfold okRefs; rw [decide_eq_false (by omega)]; simp
   simp [this]
  ·rw [decide_eq_false hb]; simp
 simp only [Bool.or_eq_false_iff, decide_eq_false_iff_not, Bool.not_eq_eq_eq_not, Bool.not_false, decide_eq_true_eq] at hb
 obtain ⟨⟨⟨⟨u1, u2⟩, u3⟩, u4⟩, u5⟩ := hb
 have hcl := (makesC_ne (checkC_makes u5)).2
 have hne1 : asc none r = false → vI 300 = vI (checkH ⟨n, q, r, s, c⟩) := fun h => by
  rw [checkH_no]; unfold okH okRefs; simp [h]
 have hne2 : okRows r.length 9223372036854775807 none s = false → vI 300 = vI (checkH ⟨n, q, r, s, c⟩) := fun h => by
  rw [checkH_no]; unfold okH; simp [h]
 refine loopB_by (fun i : Nat => [.junk, .ptr 0 0, .junk, vI i, .junk, .junk, .junk, .junk, .junk, .junk, .junk, .junk, .junk, .junk, .junk, .junk, .junk, .junk, .junk, .junk, .junk, .junk, .junk, .junk, .junk, .junk, .junk, .junk, .junk, .junk, .junk, .junk, .junk, .junk, .junk, .junk, .junk, .junk, .junk, .junk, .junk, .junk, .junk, .junk, .junk, .junk, .junk, .junk, .junk, .junk, .junk, .junk, .junk, .junk, .junk, .junk, .junk, .junk, .junk, .junk, .junk, .junk, .junk, .junk, .junk, .junk, .junk, .junk, .junk, .junk, .junk, .junk, .junk, .junk, .junk, .junk, .junk, .junk, .junk, .junk, .junk, .junk, .junk, .junk, .junk, .junk, .junk, .junk, .junk, .junk, .junk, .junk, .junk, .junk, .junk, .junk, .junk, .junk, .junk, .junk, .junk, .junk, .junk, .junk, .junk, .junk, .junk, .junk, .junk, .junk, .junk, .junk, .junk, .junk, .junk, .junk, .junk, .junk, .junk, .junk, .junk, .junk, .junk, .junk, .junk, .junk, .junk, .junk, .junk, .junk, .junk, .junk, .junk, .junk, .junk, .junk, .junk, .junk, .junk, .junk, .junk, .junk, .junk, .junk, .junk, .junk, .junk, .junk, .junk, .junk, .junk, .junk, .junk, .junk, .junk, .junk, .junk, .junk, .junk, .junk, .junk, .junk, .junk, .junk, .junk, .junk, .junk, .junk, .junk, .junk, .junk, .junk, .junk, .junk, .junk, .junk, .junk, .junk, .junk]) (fun _ => [.live [vS n, vI q, .sl j1 (r.map refP) false, .sl j2 (s.map rowP) false, .sl j3 (c.map nodeP) false]]) (fun i => i ≤ r.length ∧ asc (preR r i) (r.drop i) = asc none r ∧ (0 < i → -1 ≤ (r.getD (i - 1) noRef).t)) (fun i => r.length - i) 0 ?_ ?_ ?_
 ·simp only [RG0, RG1, Nat.reduceAdd, ltL, PV.lt, Blk.lt, Nat.reduceLT, Nat.reduceLeDiff, Wk_rfl, ltL_vI, wk_sl]
 ·exact ⟨by omega, rfl, fun h => by omega⟩
 intro i hP
 have p1 := hP.1; have p2 := hP.2.1; have p3 := hP.2.2
 have hk1 : ((i : Int) - 1).toNat = i - 1 := by omega
 by_cases hi : i < r.length
 ·have hi' : (i : Int) < r.length := by omega
  have hgo := asc_go hi
  rw [p2] at hgo
  have hj2 : j1 = 2 := k1.resolve_right (by rintro rfl; simp at hi)
  subst hj2
  have hmem : r.getD i noRef ∈ r := by
   rw [List.getD_eq_getElem?_getD, List.getElem?_eq_getElem hi]; exact List.getElem_mem hi
  generalize hR : r.getD i noRef = x at *
  generalize hQ : r.getD (i - 1) noRef = y at *
  simp -implicitDefEqProofs (maxSteps := 2000000) only [R0, R1, R2, R3, R4, R5, R6, R7, R8, R9, R10, R11, R12, R13, R14, R15, R16, PV.strip, stripL, PV.noref, ri, feedL, feeds, Nat.reduceBEq, Array.toList, ↓reduceIte, forall_const, implies_true, Nat.reduceEqDiff, reduceCtorEq, alP, bxP, bsP, ifP, quiet, riD, bs_l, PV.isRef, plainCell, norefL, PV.scalar, scalarL, PV.cells, PV.solid, PV.one, PV.free, freeL, fillP, splice, Nat.reduceAdd, Nat.reduceMul, Nat.reduceSub, Nat.reduceLeDiff, Nat.reduceLT, Int.reduceToNat, Int.reduceEq, Int.reduceLT, Int.reduceLE, Int.reduceNeg, E0_vc, vaN, PV.avoid, avoidL, Nat.reduceGT, W12, D12, gd_ref, refP, List.length_map, Int.toNat_natCast, hi', hk1, hR, hQ, rBelowE', RB0]
  refine ⟨by omega, .inl (by decide), fun _ => z2.2 _ hmem, fun hb => by unfold inI64; omega, fun hb => by omega, fun hb => p3 (by omega), fun hb => ?_, fun a b => ⟨a, b⟩, fun hb => hne1 ?_, fun hb => ⟨by unfold inI64; omega, i + 1, ⟨by omega, ?_, fun _ => ?_⟩, by omega, ?_⟩⟩
  ·obtain ⟨h, _⟩ := hb
   simp only [Bool.or_eq_false_iff, decide_eq_false_iff_not] at h
   omega
  ·rw [hgo]
   rcases hb with (hb | hb) | hb
   ·have : refOk x = false := by
     unfold refOk
     rcases hb with hb | hb
     ·rw [decide_eq_false (show ¬ -1 ≤ x.t by omega)]; rfl
     ·rw [decide_eq_false (show ¬ x.t ≤ 9999 by omega)]; simp
    rw [this]; rfl
   ·have : refOk x = false := by unfold refOk; rw [hb]; simp
    rw [this]; rfl
   ·have hb2 : ¬ cmpRef y x < 0 := hb.2
    rw [if_neg (by omega), decide_eq_false hb2]; simp
  ·simp only [Bool.or_eq_false_iff, Bool.and_eq_false_iff, decide_eq_false_iff_not, Bool.not_eq_eq_eq_not, Bool.not_false, decide_eq_true_eq] at hb
   have hr : refOk x = true := by
    unfold refOk
    rw [decide_eq_true (show -1 ≤ x.t by omega), decide_eq_true (show x.t ≤ 9999 by omega), hb.1.2]; rfl
   rw [hgo, hr]
   by_cases h0 : i = 0
   ·rw [if_pos h0]; simp
   ·have hb3 : cmpRef y x < 0 := hb.2.resolve_left (fun h => h (by omega))
    rw [if_neg h0, decide_eq_true hb3]; simp
  ·simp only [Bool.or_eq_false_iff, decide_eq_false_iff_not] at hb
   rw [show i + 1 - 1 = i by omega, hR]; omega
  ·simp only [RG0, RG1, Nat.reduceAdd, ltL, PV.lt, Blk.lt, Nat.reduceLT, Nat.reduceLeDiff, Wk_rfl, ltL_vI, wk_sl] <;> omega
 have hi' : ¬ (i : Int) < r.length := by omega
 have hasc : asc none r = true := by
  rw [← p2, List.drop_eq_nil_of_le (by omega)]
  cases preR r i <;> rfl
 have hrefs : okRefs r = true := by unfold okRefs; rw [hasc, decide_eq_true (by omega)]; rfl
 simp -implicitDefEqProofs (maxSteps := 2000000) only [R0, R1, R2, R3, R4, R5, R6, R7, R8, R9, R10, R11, R12, R13, R14, R15, R16, PV.strip, stripL, PV.noref, ri, feedL, feeds, Nat.reduceBEq, Array.toList, ↓reduceIte, forall_const, implies_true, Nat.reduceEqDiff, reduceCtorEq, alP, bxP, bsP, ifP, quiet, riD, bs_l, PV.isRef, plainCell, norefL, PV.scalar, scalarL, PV.cells, PV.solid, PV.one, PV.free, freeL, fillP, splice, Nat.reduceAdd, Nat.reduceMul, Nat.reduceSub, Nat.reduceLeDiff, Nat.reduceLT, Int.reduceToNat, Int.reduceEq, Int.reduceLT, Int.reduceLE, Int.reduceNeg, E0_vc, vaN, PV.avoid, avoidL, Nat.reduceGT, W12, D12, List.length_map, hi', RB0]
 refine loopB_by (fun x : Nat × Int => [.junk, .ptr 0 0, .junk, .junk, .junk, vI x.2, vI x.1, .junk, .junk, .junk, .junk, .junk, .junk, .junk, .junk, .junk, .junk, .junk, .junk, .junk, .junk, .junk, .junk, .junk, .junk, .junk, .junk, .junk, .junk, .junk, .junk, .junk, .junk, .junk, .junk, .junk, .junk, .junk, .junk, .junk, .junk, .junk, .junk, .junk, .junk, .junk, .junk, .junk, .junk, .junk, .junk, .junk, .junk, .junk, .junk, .junk, .junk, .junk, .junk, .junk, .junk, .junk, .junk, .junk, .junk, .junk, .junk, .junk, .junk, .junk, .junk, .junk, .junk, .junk, .junk, .junk, .junk, .junk, .junk, .junk, .junk, .junk, .junk, .junk, .junk, .junk, .junk, .junk, .junk, .junk, .junk, .junk, .junk, .junk, .junk, .junk, .junk, .junk, .junk, .junk, .junk, .junk, .junk, .junk, .junk, .junk, .junk, .junk, .junk, .junk, .junk, .junk, .junk, .junk, .junk, .junk, .junk, .junk, .junk, .junk, .junk, .junk, .junk, .junk, .junk, .junk, .junk, .junk, .junk, .junk, .junk, .junk, .junk, .junk, .junk, .junk, .junk, .junk, .junk, .junk, .junk, .junk, .junk, .junk, .junk, .junk, .junk, .junk, .junk, .junk, .junk, .junk, .junk, .junk, .junk, .junk, .junk, .junk, .junk, .junk, .junk, .junk, .junk, .junk, .junk, .junk, .junk, .junk, .junk, .junk, .junk, .junk, .junk, .junk, .junk, .junk, .junk, .junk, .junk]) (fun _ => [.live [vS n, vI q, .sl j1 (r.map refP) false, .sl j2 (s.map rowP) false, .sl j3 (c.map nodeP) false]]) (fun x => x.1 ≤ s.length ∧ 0 ≤ x.2 ∧ x.2 ≤ 9223372036854775807 ∧ okRows r.length x.2 (preF s x.1) (s.drop x.1) = okRows r.length 9223372036854775807 none s) (fun x => s.length - x.1) (0, 9223372036854775807) ?_ ?_ ?_
 ·simp only [RG0, RG1, Nat.reduceAdd, ltL, PV.lt, Blk.lt, Nat.reduceLT, Nat.reduceLeDiff, Wk_rfl, ltL_vI, wk_sl]
 ·exact ⟨by simp only; omega, by simp only; omega, by simp only; omega, rfl⟩
 intro x hP
 obtain ⟨m, left⟩ := x
 have h1 : m ≤ s.length := hP.1
 have h2 : 0 ≤ left := hP.2.1
 have h4 : left ≤ 9223372036854775807 := hP.2.2.1
 have h3 := hP.2.2.2
 simp only at h3
 have hm1 : ((m : Int) - 1).toNat = m - 1 := by omega
 by_cases hm : m < s.length
 ·have hm' : (m : Int) < s.length := by omega
  have hgo := @okRows_go r.length left s m hm
  rw [h3] at hgo
  have hj2 : j2 = 50 := k2.resolve_right (by intro e; rw [e] at hm; simp at hm)
  subst hj2
  generalize hR : s.getD m noRow = x at *
  generalize hQ : s.getD (m - 1) noRow = y at *
  have hfin : ∀ b : Bool, ((if b = true then (0 : Int) else 4) = 0) = (b = true) := fun b => by cases b <;> simp
  simp -implicitDefEqProofs (maxSteps := 2000000) only [R0, R1, R2, R3, R4, R5, R6, R7, R8, R9, R10, R11, R12, R13, R14, R15, R16, PV.strip, stripL, PV.noref, ri, feedL, feeds, Nat.reduceBEq, Array.toList, ↓reduceIte, forall_const, implies_true, Nat.reduceEqDiff, reduceCtorEq, alP, bxP, bsP, ifP, quiet, riD, bs_l, PV.isRef, plainCell, norefL, PV.scalar, scalarL, PV.cells, PV.solid, PV.one, PV.free, freeL, fillP, splice, Nat.reduceAdd, Nat.reduceMul, Nat.reduceSub, Nat.reduceLeDiff, Nat.reduceLT, Int.reduceToNat, Int.reduceEq, Int.reduceLT, Int.reduceLE, Int.reduceNeg, E0_vc, vaN, PV.avoid, avoidL, Nat.reduceGT, W12, D12, gd_row, rowP, PV.cells, tk48, tk48a, len48, hl48, strip_vI, List.replicate_zero, List.append_nil, List.length_map, Int.toNat_natCast, hm', hm1, hR, hQ, hfin, List.drop_replicate, Nat.sub_self, RB0]
  refine ⟨by omega, .inl (by decide), fun hb => by unfold inI64; omega, fun hb => by omega, fun a b => ⟨a, b⟩, fun hb => hne2 ?_, fun hb => ?_⟩
  ·rw [hgo]
   rcases hb with (((hb | hb) | hb) | hb) | hb
   ·rw [decide_eq_false (show ¬ 1 ≤ x.c by omega)]; rfl
   ·rw [decide_eq_false (show ¬ x.c ≤ left by omega)]; simp
   ·rw [Bool.not_eq_true] at hb; rw [hb]; simp
   ·rw [decide_eq_false hb]; simp
   ·rw [if_neg (by omega), decide_eq_false (show ¬ cmpFin y.f x.f < 0 by omega)]; simp
  ·simp only [Bool.or_eq_false_iff, Bool.and_eq_false_iff, decide_eq_false_iff_not, Bool.not_eq_eq_eq_not, Bool.not_false, decide_eq_true_eq] at hb
   refine ⟨by unfold inI64; omega, by unfold inI64; omega, (m + 1, left - x.c), ⟨by simp only; omega, by simp only; omega, by simp only; omega, ?_⟩, by simp only; omega, ?_⟩
   ·simp only
    rw [hgo, decide_eq_true (show 1 ≤ x.c by omega), decide_eq_true (show x.c ≤ left by omega), hb.1.1.2, decide_eq_true hb.1.2]
    by_cases h0 : m = 0
    ·rw [if_pos h0]; simp
    ·rw [if_neg h0, decide_eq_true (show cmpFin y.f x.f < 0 by omega)]; simp
   ·simp only [RG0, RG1, Nat.reduceAdd, ltL, PV.lt, Blk.lt, Nat.reduceLT, Nat.reduceLeDiff, Wk_rfl, ltL_vI, wk_sl] <;> omega
 have hm' : ¬ (m : Int) < s.length := by omega
 have hrows : okRows r.length 9223372036854775807 none s = true := by
  rw [← h3, List.drop_eq_nil_of_le (by omega)]
  cases preF s m <;> rfl
 have hyes : okH ⟨n, q, r, s, c⟩ = (if s = [] then decide (r = []) else (refsD c []).all fun x => decide (x ∈ r)) := by
  unfold okH
  simp only [u1, hrefs, hrows, u5, decide_true, Bool.and_true, Bool.true_and]
  rw [decide_eq_true (show 1 ≤ q by omega), decide_eq_true (show q ≤ 3 by omega)]; rfl
 by_cases hs : s = []
 ·have hs0 : (s.length : Int) = 0 := by rw [hs]; rfl
  have hm0 : ¬ (m : Int) < 0 := by omega
  rw [if_pos hs] at hyes
  by_cases hr : r = []
  ·have hr0 : ¬ 0 < (r.length : Int) := by rw [hr]; simp
   have hok : checkH ⟨n, q, r, s, c⟩ = 0 := checkH_ok (by rw [hyes, hr]; rfl)
   simp -implicitDefEqProofs (maxSteps := 2000000) only [R0, R1, R2, R3, R4, R5, R6, R7, R8, R9, R10, R11, R12, R13, R14, R15, R16, PV.strip, stripL, PV.noref, ri, feedL, feeds, Nat.reduceBEq, Array.toList, ↓reduceIte, forall_const, implies_true, Nat.reduceEqDiff, reduceCtorEq, alP, bxP, bsP, ifP, quiet, riD, bs_l, PV.isRef, plainCell, norefL, PV.scalar, scalarL, PV.cells, PV.solid, PV.one, PV.free, freeL, fillP, splice, Nat.reduceAdd, Nat.reduceMul, Nat.reduceSub, Nat.reduceLeDiff, Nat.reduceLT, Int.reduceToNat, Int.reduceEq, Int.reduceLT, Int.reduceLE, Int.reduceNeg, E0_vc, vaN, PV.avoid, avoidL, Nat.reduceGT, W12, D12, List.length_map, hm0, hs0, hr0, hok, RB0]
  ·have hr0 : 0 < (r.length : Int) := by
    have := List.length_pos_iff.2 hr
    omega
   have hok : checkH ⟨n, q, r, s, c⟩ = 300 := checkH_no (by rw [hyes, decide_eq_false hr])
   simp -implicitDefEqProofs (maxSteps := 2000000) only [R0, R1, R2, R3, R4, R5, R6, R7, R8, R9, R10, R11, R12, R13, R14, R15, R16, PV.strip, stripL, PV.noref, ri, feedL, feeds, Nat.reduceBEq, Array.toList, ↓reduceIte, forall_const, implies_true, Nat.reduceEqDiff, reduceCtorEq, alP, bxP, bsP, ifP, quiet, riD, bs_l, PV.isRef, plainCell, norefL, PV.scalar, scalarL, PV.cells, PV.solid, PV.one, PV.free, freeL, fillP, splice, Nat.reduceAdd, Nat.reduceMul, Nat.reduceSub, Nat.reduceLeDiff, Nat.reduceLT, Int.reduceToNat, Int.reduceEq, Int.reduceLT, Int.reduceLE, Int.reduceNeg, E0_vc, vaN, PV.avoid, avoidL, Nat.reduceGT, W12, D12, List.length_map, hm0, hs0, hr0, hok, RB0]
 rw [if_neg hs] at hyes
 have hs0 : ¬ (s.length : Int) = 0 := by
  have := List.length_pos_iff.2 hs
  omega
 obtain ⟨ja, hA, hja⟩ := ansR_eq (refsD c [])
 have hdl := refsD_len c []
 simp only [List.length_nil, Nat.add_zero] at hdl
 simp -implicitDefEqProofs (maxSteps := 2000000) only [R0, R1, R2, R3, R4, R5, R6, R7, R8, R9, R10, R11, R12, R13, R14, R15, R16, PV.strip, stripL, PV.noref, ri, feedL, feeds, Nat.reduceBEq, Array.toList, ↓reduceIte, forall_const, implies_true, Nat.reduceEqDiff, reduceCtorEq, alP, bxP, bsP, ifP, quiet, riD, bs_l, PV.isRef, plainCell, norefL, PV.scalar, scalarL, PV.cells, PV.solid, PV.one, PV.free, freeL, fillP, splice, Nat.reduceAdd, Nat.reduceMul, Nat.reduceSub, Nat.reduceLeDiff, Nat.reduceLT, Int.reduceToNat, Int.reduceEq, Int.reduceLT, Int.reduceLE, Int.reduceNeg, E0_vc, vaN, PV.avoid, avoidL, Nat.reduceGT, W12, D12, List.length_map, hm', hs0, e3, u5, hA, RB0]
 refine ⟨z4, ?_⟩
 refine loopB_by (fun i : Nat => [.junk, .ptr 0 0, .junk, .junk, .junk, .junk, .junk, .junk, .sl ja ((refsD c []).map refP) false, .junk, vI i, .junk, .junk, .junk, .junk, .junk, .junk, .junk, .junk, .junk, .junk, .junk, .junk, .junk, .junk, .junk, .junk, .junk, .junk, .junk, .junk, .junk, .junk, .junk, .junk, .junk, .junk, .junk, .junk, .junk, .junk, .junk, .junk, .junk, .junk, .junk, .junk, .junk, .junk, .junk, .junk, .junk, .junk, .junk, .junk, .junk, .junk, .junk, .junk, .junk, .junk, .junk, .junk, .junk, .junk, .junk, .junk, .junk, .junk, .junk, .junk, .junk, .junk, .junk, .junk, .junk, .junk, .junk, .junk, .junk, .junk, .junk, .junk, .junk, .junk, .junk, .junk, .junk, .junk, .junk, .junk, .junk, .junk, .junk, .junk, .junk, .junk, .junk, .junk, .junk, .junk, .junk, .junk, .junk, .junk, .junk, .junk, .junk, .junk, .junk, .junk, .junk, .junk, .junk, .junk, .junk, .junk, .junk, .junk, .junk, .junk, .junk, .junk, .junk, .junk, .junk, .junk, .junk, .junk, .junk, .junk, .junk, .junk, .junk, .junk, .junk, .junk, .junk, .junk, .junk, .junk, .junk, .junk, .junk, .junk, .junk, .junk, .junk, .junk, .junk, .junk, .junk, .junk, .junk, .junk, .junk, .junk, .junk, .junk, .junk, .junk, .junk, .junk, .junk, .junk, .junk, .junk, .junk, .junk, .junk, .junk, .junk, .junk, .junk, .junk, .junk, .junk, .junk, .junk]) (fun _ => [.live [vS n, vI q, .sl j1 (r.map refP) false, .sl j2 (s.map rowP) false, .sl j3 (c.map nodeP) false]]) (fun i => i ≤ (refsD c []).length ∧ ∀ j, j < i → (refsD c []).getD j noRef ∈ r) (fun i => (refsD c []).length - i) 0 ?_ ?_ ?_
 ·simp only [RG0, RG1, Nat.reduceAdd, ltL, PV.lt, Blk.lt, Nat.reduceLT, Nat.reduceLeDiff, Wk_rfl, ltL_vI, wk_sl]
 ·exact ⟨by omega, fun j h => by omega⟩
 intro i hP
 have p1 := hP.1; have p2 := hP.2
 by_cases hi : i < (refsD c []).length
 case neg =>
  have hi' : ¬ (i : Int) < (refsD c []).length := by omega
  have hok : checkH ⟨n, q, r, s, c⟩ = 0 := by
   rw [checkH_ok]
   rw [hyes, List.all_eq_true]
   intro x hx
   obtain ⟨j, hj, rfl⟩ := List.mem_iff_getElem.1 hx
   have := p2 j (by omega)
   rw [List.getD_eq_getElem?_getD, List.getElem?_eq_getElem hj] at this
   exact decide_eq_true this
  simp -implicitDefEqProofs (maxSteps := 2000000) only [R0, R1, R2, R3, R4, R5, R6, R7, R8, R9, R10, R11, R12, R13, R14, R15, R16, PV.strip, stripL, PV.noref, ri, feedL, feeds, Nat.reduceBEq, Array.toList, ↓reduceIte, forall_const, implies_true, Nat.reduceEqDiff, reduceCtorEq, alP, bxP, bsP, ifP, quiet, riD, bs_l, PV.isRef, plainCell, norefL, PV.scalar, scalarL, PV.cells, PV.solid, PV.one, PV.free, freeL, fillP, splice, Nat.reduceAdd, Nat.reduceMul, Nat.reduceSub, Nat.reduceLeDiff, Nat.reduceLT, Int.reduceToNat, Int.reduceEq, Int.reduceLT, Int.reduceLE, Int.reduceNeg, E0_vc, vaN, PV.avoid, avoidL, Nat.reduceGT, W12, D12, List.length_map, hi', hok, RB0]
 have hi' : (i : Int) < (refsD c []).length := by omega
 have hja2 : ja = 2 := hja.resolve_right (by intro e; rw [e] at hi; simp at hi)
 subst hja2
 simp -implicitDefEqProofs (maxSteps := 2000000) only [R0, R1, R2, R3, R4, R5, R6, R7, R8, R9, R10, R11, R12, R13, R14, R15, R16, PV.strip, stripL, PV.noref, ri, feedL, feeds, Nat.reduceBEq, Array.toList, ↓reduceIte, forall_const, implies_true, Nat.reduceEqDiff, reduceCtorEq, alP, bxP, bsP, ifP, quiet, riD, bs_l, PV.isRef, plainCell, norefL, PV.scalar, scalarL, PV.cells, PV.solid, PV.one, PV.free, freeL, fillP, splice, Nat.reduceAdd, Nat.reduceMul, Nat.reduceSub, Nat.reduceLeDiff, Nat.reduceLT, Int.reduceToNat, Int.reduceEq, Int.reduceLT, Int.reduceLE, Int.reduceNeg, E0_vc, vaN, PV.avoid, avoidL, Nat.reduceGT, W12, D12, List.length_map, hi', RB0]
 generalize hR : (refsD c []).getD i noRef = a at *
 refine loopB_by (fun x : Nat × Bool => [.junk, .ptr 0 0, .junk, .junk, .junk, .junk, .junk, .junk, .sl 2 ((refsD c []).map refP) false, .junk, vI i, vT x.2, vI x.1, .junk, .junk, .junk, .junk, .junk, .junk, .junk, .junk, .junk, .junk, .junk, .junk, .junk, .junk, .junk, .junk, .junk, .junk, .junk, .junk, .junk, .junk, .junk, .junk, .junk, .junk, .junk, .junk, .junk, .junk, .junk, .junk, .junk, .junk, .junk, .junk, .junk, .junk, .junk, .junk, .junk, .junk, .junk, .junk, .junk, .junk, .junk, .junk, .junk, .junk, .junk, .junk, .junk, .junk, .junk, .junk, .junk, .junk, .junk, .junk, .junk, .junk, .junk, .junk, .junk, .junk, .junk, .junk, .junk, .junk, .junk, .junk, .junk, .junk, .junk, .junk, .junk, .junk, .junk, .junk, .junk, .junk, .junk, .junk, .junk, .junk, .junk, .junk, .junk, .junk, .junk, .junk, .junk, .junk, .junk, .junk, .junk, .junk, .junk, .junk, .junk, .junk, .junk, .junk, .junk, .junk, .junk, .junk, .junk, .junk, .junk, .junk, .junk, .junk, .junk, .junk, .junk, .junk, .junk, .junk, .junk, .junk, .junk, .junk, .junk, .junk, .junk, .junk, .junk, .junk, .junk, .junk, .junk, .junk, .junk, .junk, .junk, .junk, .junk, .junk, .junk, .junk, .junk, .junk, .junk, .junk, .junk, .junk, .junk, .junk, .junk, .junk, .junk, .junk, .junk, .junk, .junk, .junk, .junk, .junk, .junk, .junk, .junk, .junk, .junk, .junk]) (fun _ => [.live [vS n, vI q, .sl j1 (r.map refP) false, .sl j2 (s.map rowP) false, .sl j3 (c.map nodeP) false]]) (fun x => x.1 ≤ r.length ∧ x.2 = decide (a ∈ r.take x.1)) (fun x => r.length - x.1) (0, false) ?_ ?_ ?_
 ·simp only [RG0, RG1, Nat.reduceAdd, ltL, PV.lt, Blk.lt, Nat.reduceLT, Nat.reduceLeDiff, Wk_rfl, ltL_vI, wk_sl]
 ·exact ⟨by simp only; omega, by simp⟩
 intro x hP
 obtain ⟨k, b⟩ := x
 have q1 : k ≤ r.length := hP.1
 have q2 : b = decide (a ∈ r.take k) := hP.2
 by_cases hk : k < r.length
 ·have hk' : (k : Int) < r.length := by omega
  have hj2 : j1 = 2 := k1.resolve_right (by intro e; rw [e] at hk; simp at hk)
  subst hj2
  simp -implicitDefEqProofs (maxSteps := 2000000) only [R0, R1, R2, R3, R4, R5, R6, R7, R8, R9, R10, R11, R12, R13, R14, R15, R16, PV.strip, stripL, PV.noref, ri, feedL, feeds, Nat.reduceBEq, Array.toList, ↓reduceIte, forall_const, implies_true, Nat.reduceEqDiff, reduceCtorEq, alP, bxP, bsP, ifP, quiet, riD, bs_l, PV.isRef, plainCell, norefL, PV.scalar, scalarL, PV.cells, PV.solid, PV.one, PV.free, freeL, fillP, splice, Nat.reduceAdd, Nat.reduceMul, Nat.reduceSub, Nat.reduceLeDiff, Nat.reduceLT, Int.reduceToNat, Int.reduceEq, Int.reduceLT, Int.reduceLE, Int.reduceNeg, E0_vc, vaN, PV.avoid, avoidL, Nat.reduceGT, W12, D12, gd_ref, refP, List.length_map, Int.toNat_natCast, hk', hR, RB0]
  have hnn : r[k] = r.getD k noRef := by rw [List.getD_eq_getElem?_getD, List.getElem?_eq_getElem hk]; rfl
  refine ⟨.inl (by decide), fun _ => by omega, fun _ => by omega, by unfold inI64; omega, (k + 1, b || decide ((⟨(r.getD k noRef).t, (r.getD k noRef).n⟩ : Ref) = ⟨a.t, a.n⟩)), ⟨by simp only; omega, ?_⟩, by simp only; omega, ?_⟩
  ·simp only
   rw [q2, List.take_succ, List.getElem?_eq_getElem hk, ← hnn, ← Bool.decide_or]
   refine decide_eq_decide.2 ?_
   simp only [Option.toList_some, List.mem_append, List.mem_singleton]
   exact or_congr Iff.rfl ⟨fun h => h.symm, fun h => h.symm⟩
  ·simp only [RG0, RG1, Nat.reduceAdd, ltL, PV.lt, Blk.lt, Nat.reduceLT, Nat.reduceLeDiff, Wk_rfl, ltL_vI, wk_sl] <;> omega
 ·have hk' : ¬ (k : Int) < r.length := by omega
  simp -implicitDefEqProofs (maxSteps := 2000000) only [R0, R1, R2, R3, R4, R5, R6, R7, R8, R9, R10, R11, R12, R13, R14, R15, R16, PV.strip, stripL, PV.noref, ri, feedL, feeds, Nat.reduceBEq, Array.toList, ↓reduceIte, forall_const, implies_true, Nat.reduceEqDiff, reduceCtorEq, alP, bxP, bsP, ifP, quiet, riD, bs_l, PV.isRef, plainCell, norefL, PV.scalar, scalarL, PV.cells, PV.solid, PV.one, PV.free, freeL, fillP, splice, Nat.reduceAdd, Nat.reduceMul, Nat.reduceSub, Nat.reduceLeDiff, Nat.reduceLT, Int.reduceToNat, Int.reduceEq, Int.reduceLT, Int.reduceLE, Int.reduceNeg, E0_vc, vaN, PV.avoid, avoidL, Nat.reduceGT, W12, D12, List.length_map, hk', RB0]
  have hb2 : b = decide (a ∈ r) := by rw [q2, List.take_of_length_le (by omega)]
  refine ⟨fun hb => ?_, fun hb => ⟨by unfold inI64; omega, i + 1, ⟨by omega, fun j hj => ?_⟩, by omega, ?_⟩⟩
  ·rw [checkH_no]
   rw [hyes]
   apply Bool.eq_false_iff.2
   intro hall
   have := List.all_eq_true.1 hall a (by
    rw [← hR, List.getD_eq_getElem?_getD, List.getElem?_eq_getElem hi]; exact List.getElem_mem _)
   rw [hb] at hb2
   rw [← hb2] at this; cases this
  ·by_cases e : j = i
   ·subst e; rw [hR]; rw [hb] at hb2; exact of_decide_eq_true hb2.symm
   ·exact p2 j (by omega)
  ·simp only [RG0, RG1, Nat.reduceAdd, ltL, PV.lt, Blk.lt, Nat.reduceLT, Nat.reduceLeDiff, Wk_rfl, ltL_vI, wk_sl] <;> omega
end Go.Ve.H
end
