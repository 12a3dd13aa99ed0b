/- weirlaw30.HistAdds: part of the proof (a value semantics for the model's code, and the functions told by it). -/
import Derived.Test.YtelhcaefmpnfkaaA21
set_option linter.unusedSimpArgs false
set_option linter.unusedVariables false
set_option linter.deprecated false
set_option linter.unusedSectionVars false
set_option linter.defProp false
section
set_option maxRecDepth 10000
set_option maxHeartbeats 2000000
namespace Go.Ve.H
open Go Go.Proofs Go.Ve
def rDeepF (k : Nat) : List PV → Option (List Prop × PV) := pDeepF k
theorem rDeepE (k : Nat) (c : List Node) (o : Bool) (i : Int) : rDeepF k [.sl 6 (c.map nodeP) o, .val (.int .i64 i)] = some ([wfC c, c.length ≤ 1024, 0 ≤ i, i < c.length, i < k], vI (depth c i)) := pDeepE k c o i
def D46 (k : Nat) : FuncId → Option CB
 | 46 => some (.fn (rDeepF k))
 | 58 => some (.fn rBrackF)
 | _ => none
def W46 := And.intro @Try.results46 (And.intro @Try.underlying25 (And.intro @sz46 (And.intro @zd46 (And.intro @ag46 (And.intro @zp46 (And.intro @fa46_0 (And.intro @ag3 (And.intro @sz3 (And.intro @zd3 (And.intro @fa46_1 (And.intro @fa46_2 (And.intro @rDeepE (@rBrackE)))))))))))))
theorem rDeep_step (k : Nat) (h : Sound Try.prog G0 46 (conT (CB.fn (rDeepF k)).toCon)) : Sound Try.prog G0 46 (conT (CB.fn (rDeepF (k + 1))).toCon) := by
 have hD : AllB E0 (D46 k) := fun g c hg => by
  unfold D46 at hg
  split at hg <;> simp at hg <;> subst hg
  ·exact h
  ·exact rBrack_ok
 refine fn_of hD mixed true Try.func46 (by decide) rfl _ ?_
 intro args ps r hq hp
 obtain ⟨c, o, i, rfl, rfl, rfl⟩ := pDeepF_inv hq
 have hw := hp (wfC c) (by simp)
 have hl := hp (c.length ≤ 1024) (by simp)
 have h0 := hp (0 ≤ i) (by simp)
 have h1 := hp (i < c.length) (by simp)
 have hk := hp (i < (k + 1 : Nat)) (by simp)
 refine ⟨by simp [norefL, PV.noref, nr_map nr_node], ?_⟩
 simp only [awpBFn, Try.ntmps46, List.length_cons, List.length_nil, Nat.reduceAdd, Nat.reduceSub, List.replicate_succ, List.replicate_zero, List.cons_append, List.nil_append, List.map_cons, List.map_nil]
 have hE := rDeepE k c
 have hn := hw i.toNat _ (nd_at h0 h1)
 have hde := depth_eq hw h0 h1
 have hop : ∀ x : Int, 0 ≤ x → x < c.length → (c.getD x.toNat noNode).op = ndOp c x := fun x a b => by
  unfold ndOp; rw [nd_at a b]
 have hpt : ∀ (op x : Int) (s : Bool), 0 ≤ x → x < c.length → brack op (c.getD x.toNat noNode).op s = true → depth c x + 1 = partN c op x s := fun op x s a b h => by
  unfold partN; rw [← hop x a b, if_pos h]
 have hpf : ∀ (op x : Int) (s : Bool), 0 ≤ x → x < c.length → brack op (c.getD x.toNat noNode).op s = false → depth c x = partN c op x s := fun op x s a b h => by
  unfold partN; rw [← hop x a b, if_neg (by rw [h]; decide)]; omega
 have hmx : ∀ a b : Int, (if b > a then b else a) = max a b := fun a b => by rw [Int.max_def]; split <;> split <;> omega
 have hdl := fun x (a : (0 : Int) ≤ x) => deepN_le c (x.toNat + 1) x
 have hdl' : ∀ x : Int, 0 ≤ x → x < c.length → 0 ≤ depth c x ∧ depth c x ≤ 3000 := fun x a b => by
  have := hdl x a
  unfold depth; omega
 by_cases h3 : (c.getD i.toNat noNode).op = 3
 ·simp -implicitDefEqProofs (maxSteps := 2000000) only [R0, R1, R2, R3, R4, R5, R6, R7, R8, R9, R10, R11, R12, R13, R14, R15, R16, PV.strip, stripL, PV.noref, ri, feedL, feeds, Nat.reduceBEq, Array.toList, ↓reduceIte, forall_const, implies_true, Nat.reduceEqDiff, reduceCtorEq, alP, bxP, bsP, ifP, quiet, riD, bs_l, PV.isRef, plainCell, norefL, PV.scalar, scalarL, PV.cells, PV.solid, PV.one, PV.free, freeL, fillP, splice, Nat.reduceAdd, Nat.reduceMul, Nat.reduceSub, Nat.reduceLeDiff, Nat.reduceLT, Int.reduceToNat, Int.reduceEq, Int.reduceLT, Int.reduceLE, Int.reduceNeg, E0_vc, vaN, PV.avoid, avoidL, Nat.reduceGT, W46, D46, gd_node, nodeP, List.length_map, hE, h3, RB0]
  obtain ⟨a0, a1⟩ := hn.1 h3
  rw [if_pos h3, h3] at hde
  have hb := hdl' _ a0 (by omega)
  refine ⟨⟨h0, h1⟩, hw, hl, a0, by omega, by omega, .inl rfl, by omega, fun h => ⟨by unfold inI64; omega, by unfold inI64; omega, ?_⟩, fun h => ⟨by unfold inI64; omega, ?_⟩⟩
  ·rw [hde, ← hpt _ _ _ a0 (by omega) h, Int.add_comm 1]
  ·rw [hde, ← hpf _ _ _ a0 (by omega) h, Int.add_comm 1]
 by_cases h4 : (c.getD i.toNat noNode).op = 4
 ·simp -implicitDefEqProofs (maxSteps := 2000000) only [R0, R1, R2, R3, R4, R5, R6, R7, R8, R9, R10, R11, R12, R13, R14, R15, R16, PV.strip, stripL, PV.noref, ri, feedL, feeds, Nat.reduceBEq, Array.toList, ↓reduceIte, forall_const, implies_true, Nat.reduceEqDiff, reduceCtorEq, alP, bxP, bsP, ifP, quiet, riD, bs_l, PV.isRef, plainCell, norefL, PV.scalar, scalarL, PV.cells, PV.solid, PV.one, PV.free, freeL, fillP, splice, Nat.reduceAdd, Nat.reduceMul, Nat.reduceSub, Nat.reduceLeDiff, Nat.reduceLT, Int.reduceToNat, Int.reduceEq, Int.reduceLT, Int.reduceLE, Int.reduceNeg, E0_vc, vaN, PV.avoid, avoidL, Nat.reduceGT, W46, D46, gd_node, nodeP, List.length_map, hE, h4, RB0]
  obtain ⟨⟨a0, a1⟩, b0, b1⟩ := hn.2 (.inl h4)
  rw [if_neg h3, if_pos (.inl h4), h4] at hde
  have hb := hdl' _ a0 (by omega)
  have hc := hdl' _ b0 (by omega)
  refine ⟨⟨h0, h1⟩, hw, hl, a0, by omega, by omega, .inl rfl, by omega, fun h => ⟨by unfold inI64; omega, hw, hl, b0, by omega, by omega, .inl rfl, by omega, fun h' => ⟨by unfold inI64; omega, ?_⟩, fun h' => ?_⟩, fun h => ⟨hw, hl, b0, by omega, by omega, .inl rfl, by omega, fun h' => ⟨by unfold inI64; omega, ?_⟩, fun h' => ?_⟩⟩
  ·rw [hmx, hde, ← hpt _ _ _ a0 (by omega) h, ← hpt _ _ _ b0 (by omega) h']
  ·rw [hmx, hde, ← hpt _ _ _ a0 (by omega) h, ← hpf _ _ _ b0 (by omega) h']
  ·rw [hmx, hde, ← hpf _ _ _ a0 (by omega) h, ← hpt _ _ _ b0 (by omega) h']
  ·rw [hmx, hde, ← hpf _ _ _ a0 (by omega) h, ← hpf _ _ _ b0 (by omega) h']
 by_cases h5 : (c.getD i.toNat noNode).op = 5
 ·simp -implicitDefEqProofs (maxSteps := 2000000) only [R0, R1, R2, R3, R4, R5, R6, R7, R8, R9, R10, R11, R12, R13, R14, R15, R16, PV.strip, stripL, PV.noref, ri, feedL, feeds, Nat.reduceBEq, Array.toList, ↓reduceIte, forall_const, implies_true, Nat.reduceEqDiff, reduceCtorEq, alP, bxP, bsP, ifP, quiet, riD, bs_l, PV.isRef, plainCell, norefL, PV.scalar, scalarL, PV.cells, PV.solid, PV.one, PV.free, freeL, fillP, splice, Nat.reduceAdd, Nat.reduceMul, Nat.reduceSub, Nat.reduceLeDiff, Nat.reduceLT, Int.reduceToNat, Int.reduceEq, Int.reduceLT, Int.reduceLE, Int.reduceNeg, E0_vc, vaN, PV.avoid, avoidL, Nat.reduceGT, W46, D46, gd_node, nodeP, List.length_map, hE, h5, RB0]
  obtain ⟨⟨a0, a1⟩, b0, b1⟩ := hn.2 (.inr h5)
  rw [if_neg h3, if_pos (.inr h5), h5] at hde
  have hb := hdl' _ a0 (by omega)
  have hc := hdl' _ b0 (by omega)
  refine ⟨⟨h0, h1⟩, hw, hl, a0, by omega, by omega, .inl rfl, by omega, fun h => ⟨by unfold inI64; omega, hw, hl, b0, by omega, by omega, .inl rfl, by omega, fun h' => ⟨by unfold inI64; omega, ?_⟩, fun h' => ?_⟩, fun h => ⟨hw, hl, b0, by omega, by omega, .inl rfl, by omega, fun h' => ⟨by unfold inI64; omega, ?_⟩, fun h' => ?_⟩⟩
  ·rw [hmx, hde, ← hpt _ _ _ a0 (by omega) h, ← hpt _ _ _ b0 (by omega) h']
  ·rw [hmx, hde, ← hpt _ _ _ a0 (by omega) h, ← hpf _ _ _ b0 (by omega) h']
  ·rw [hmx, hde, ← hpf _ _ _ a0 (by omega) h, ← hpt _ _ _ b0 (by omega) h']
  ·rw [hmx, hde, ← hpf _ _ _ a0 (by omega) h, ← hpf _ _ _ b0 (by omega) h']
 simp -implicitDefEqProofs (maxSteps := 2000000) only [R0, R1, R2, R3, R4, R5, R6, R7, R8, R9, R10, R11, R12, R13, R14, R15, R16, PV.strip, stripL, PV.noref, ri, feedL, feeds, Nat.reduceBEq, Array.toList, ↓reduceIte, forall_const, implies_true, Nat.reduceEqDiff, reduceCtorEq, alP, bxP, bsP, ifP, quiet, riD, bs_l, PV.isRef, plainCell, norefL, PV.scalar, scalarL, PV.cells, PV.solid, PV.one, PV.free, freeL, fillP, splice, Nat.reduceAdd, Nat.reduceMul, Nat.reduceSub, Nat.reduceLeDiff, Nat.reduceLT, Int.reduceToNat, Int.reduceEq, Int.reduceLT, Int.reduceLE, Int.reduceNeg, E0_vc, vaN, PV.avoid, avoidL, Nat.reduceGT, W46, D46, gd_node, nodeP, List.length_map, hE, h3, h4, h5, RB0]
 rw [if_neg h3, if_neg (by omega)] at hde
 refine ⟨⟨h0, h1⟩, ?_⟩
 rw [hde]; rfl
theorem rDeep_all : ∀ k : Nat, Sound Try.prog G0 46 (conT (CB.fn (rDeepF k)).toCon)
 | 0 => ⟨⟨_, Try.func46, by decide, rfl⟩, fun Pr F R blks w args vs K _ _ _ _ _ ⟨r, ⟨ps, hq, hp⟩, _⟩ => by
  obtain ⟨c, o, i, rfl, rfl, rfl⟩ := pDeepF_inv hq
  have h0 := hp (0 ≤ i) (by simp)
  have hk := hp (i < (0 : Nat)) (by simp)
  omega⟩
 | k + 1 => rDeep_step k (rDeep_all k)
def rDeepGF := pDeepF 2000
theorem rDeepG_ok : Sound Try.prog G0 46 (conT (CB.fn rDeepGF).toCon) := rDeep_all 2000
theorem rDeepGE (c : List Node) (o : Bool) (i : Int) : rDeepGF [.sl 6 (c.map nodeP) o, .val (.int .i64 i)] = some ([wfC c, c.length ≤ 1024, 0 ≤ i, i < c.length, i < (2000 : Nat)], vI (depth c i)) := pDeepE 2000 c o i
end Go.Ve.H
end
section
set_option maxRecDepth 10000
set_option maxHeartbeats 2000000
namespace Go.Ve.H
open Go Go.Proofs Go.Ve
def onc (g : List Node → List Prop × PV) : List PV → Option (List Prop × PV)
 | [p] => match slD 6 nodeD p with
  | some c => some (g c)
  | none => none
 | _ => none
theorem onc_inv {g : List Node → List Prop × PV} {args : List PV} {x : List Prop × PV} (h : onc g args = some x) : ∃ j o c, args = [.sl j (c.map nodeP) o] ∧ (j = 6 ∨ c = []) ∧ x = g c := by
 unfold onc at h
 split at h
 ·split at h
  ·rename_i c h1
   injection h with h
   obtain ⟨j, o, rfl, hj⟩ := slD_inv (fun _ _ => nodeD_inv) h1
   exact ⟨j, o, c, rfl, hj, h.symm⟩
  ·cases h
 ·cases h
theorem onc_P {g : List Node → List Prop × PV} {j : Nat} {o : Bool} {c : List Node} (hj : j = 6 ∨ c = []) : onc g [.sl j (c.map nodeP) o] = some (g c) := by
 simp only [onc, slD_of nodeD_P hj]
def szC (c : List Node) : Prop := c.length ≤ 1099511627776 ∧ ∀ n ∈ c, n.ref.n.size ≤ 1099511627776
def mkF := onc fun c => ([szC c], vT (makesC c))
def pMakesF := mkF
def rMakesF := mkF
theorem pMakesE {j : Nat} {o : Bool} {c : List Node} (hj : j = 6 ∨ c = []) : pMakesF [.sl j (c.map nodeP) o] = some ([szC c], vT (makesC c)) := onc_P hj
theorem rMakesE {j : Nat} {o : Bool} {c : List Node} (hj : j = 6 ∨ c = []) : rMakesF [.sl j (c.map nodeP) o] = some ([szC c], vT (makesC c)) := onc_P hj
theorem makesC_len {c : List Node} (h : (c.length : Int) < 1 ∨ 1024 < (c.length : Int)) : makesC c = false := by
 unfold makesC
 rcases h with h | h
 ·rw [decide_eq_false (by omega)]; rfl
 ·rw [decide_eq_false (show ¬ (c.length : Int) ≤ 1024 by omega), Bool.and_false]; rfl
def D51 : FuncId → Option CB
 | 60 => some (.fn pFieldsF)
 | _ => none
theorem D51_ok : AllB E0 D51 := fun g c h => by
 unfold D51 at h
 split at h <;> simp at h <;> subst h
 ·exact pFields_ok
def W51 := And.intro @Try.results51 (And.intro @Try.underlying25 (And.intro @Try.underlying86 (And.intro @sz3 (And.intro @zs3 (And.intro @by3 (And.intro @zp3 (And.intro @zd3 (And.intro @sz46 (And.intro @zd46 (And.intro @ag46 (And.intro @zp46 (And.intro @fa46_0 (And.intro @ag3 (And.intro @fa46_1 (And.intro @fa46_2 (@pFieldsE))))))))))))))))
theorem pMakes_ok : Sound Try.prog G0 51 (conT (CB.fn pMakesF).toCon) := by
 refine fn_of D51_ok mixed true Try.func51 (by decide) rfl _ ?_
 intro args ps r hq hp
 obtain ⟨j, o, c, rfl, hj, hx⟩ := onc_inv hq
 obtain ⟨rfl, rfl⟩ := Prod.mk.inj hx
 have hz := hp (szC c) (by simp)
 refine ⟨by simp [norefL, PV.noref, nr_map nr_node], ?_⟩
 by_cases hlen : (c.length : Int) < 1 ∨ 1024 < (c.length : Int)
 ·have hm := makesC_len hlen
  simp only [awpBFn, Try.ntmps51, List.length_cons, List.length_nil, Nat.reduceAdd, Nat.reduceSub, List.replicate_succ, List.replicate_zero, List.cons_append, List.nil_append, List.map_cons, List.map_nil]
  have hd : (decide ((c.length : Int) < 1) || decide (1024 < (c.length : Int))) = true := by simpa using hlen
  simp -implicitDefEqProofs (maxSteps := 2000000) only [R0, R1, R2, R3, R4, R5, R6, R7, R8, R9, R10, R11, R12, R13, R14, R15, R16, PV.strip, stripL, PV.noref, ri, feedL, feeds, Nat.reduceBEq, Array.toList, ↓reduceIte, forall_const, implies_true, Nat.reduceEqDiff, reduceCtorEq, alP, bxP, bsP, ifP, quiet, riD, bs_l, PV.isRef, plainCell, norefL, PV.scalar, scalarL, PV.cells, PV.solid, PV.one, PV.free, freeL, fillP, splice, Nat.reduceAdd, Nat.reduceMul, Nat.reduceSub, Nat.reduceLeDiff, Nat.reduceLT, Int.reduceToNat, Int.reduceEq, Int.reduceLT, Int.reduceLE, Int.reduceNeg, E0_vc, vaN, PV.avoid, avoidL, Nat.reduceGT, W51, D51, gd_node, nodeP, List.length_map, hlen, hd, hm, RB0]
 have hj6 : j = 6 := hj.resolve_right (by rintro rfl; simp at hlen)
 subst hj6
 simp only [awpBFn, Try.ntmps51, List.length_cons, List.length_nil, Nat.reduceAdd, Nat.reduceSub, List.replicate_succ, List.replicate_zero, List.cons_append, List.nil_append, List.map_cons, List.map_nil]
 have hd1 : ¬ (c.length : Int) < 1 := fun h => hlen (.inl h)
 have hd2 : ¬ 1024 < (c.length : Int) := fun h => hlen (.inr h)
 simp -implicitDefEqProofs (maxSteps := 2000000) only [R0, R1, R2, R3, R4, R5, R6, R7, R8, R9, R10, R11, R12, R13, R14, R15, R16, PV.strip, stripL, PV.noref, ri, feedL, feeds, Nat.reduceBEq, Array.toList, ↓reduceIte, forall_const, implies_true, Nat.reduceEqDiff, reduceCtorEq, alP, bxP, bsP, ifP, quiet, riD, bs_l, PV.isRef, plainCell, norefL, PV.scalar, scalarL, PV.cells, PV.solid, PV.one, PV.free, freeL, fillP, splice, Nat.reduceAdd, Nat.reduceMul, Nat.reduceSub, Nat.reduceLeDiff, Nat.reduceLT, Int.reduceToNat, Int.reduceEq, Int.reduceLT, Int.reduceLE, Int.reduceNeg, E0_vc, vaN, PV.avoid, avoidL, Nat.reduceGT, W51, D51, gd_node, nodeP, List.length_map, hd1, hd2, Int.toNat_natCast, zeros1 (vI 0) rfl, RB0]
 have hroom : roomy c.length 8 = true := by
  unfold roomy; simp; omega
 have hmk : makesC c = runS 0 c [] := by
  unfold makesC
  rw [decide_eq_true (show 1 ≤ (c.length : Int) by omega), decide_eq_true (show (c.length : Int) ≤ 1024 by omega)]; rfl
 refine ⟨by omega, by omega, hroom, ?_⟩
 refine loopB_ov [1, 2, 4, 5, 6, 7, 8, 9, 10, 11, 12, 13, 14, 15, 16, 20, 21, 22, 23, 24, 25, 26, 27, 28, 29, 30, 31, 32, 33, 34, 35, 36, 37, 38, 39, 40, 41, 42, 43, 44, 45, 46, 47, 48, 49, 50, 51, 52, 53, 54, 55, 56, 57, 58, 59, 60, 61, 62, 63, 64, 65, 66, 67, 68, 69, 70, 71, 72, 73, 74, 75, 76, 77, 78, 79, 80, 81, 82, 83, 84, 85, 86, 87, 88, 89, 90, 91, 92, 93, 94, 95, 96, 97, 98] (fun x : Nat × List Int => [(0, .sl 6 (c.map nodeP) false), (19, vI x.1)]) 1 (fun x => [(0, .live (x.2.map vI))]) (fun x => x.1 ≤ c.length ∧ x.2.length = c.length ∧ ∃ st, runS x.1 (c.drop x.1) st = runS 0 c [] ∧ topIs x.1 st ∧ chain x.2 st ∧ ∀ y ∈ st, 0 ≤ y ∧ y < x.1) (fun x => c.length - x.1) (0, List.replicate c.length 0) ?_ ?_ ?_
 ·simp only [RG0, RG1, Nat.reduceAdd, ltL, PV.lt, Blk.lt, Nat.reduceLT, Nat.reduceLeDiff, Wk_rfl, ltL_vI, wk_sl, List.map_replicate]
 ·exact ⟨by omega, List.length_replicate, [], rfl, rfl, trivial, fun _ h => by cases h⟩
 rintro ⟨i, F⟩ hP
 have h1 : i ≤ c.length := hP.1
 have hF : F.length = c.length := hP.2.1
 simp -implicitDefEqProofs (maxSteps := 2000000) only [R0, R1, R2, R3, R4, R5, R6, R7, R8, R9, R10, R11, R12, R13, R14, R15, R16, PV.strip, stripL, PV.noref, ri, feedL, feeds, Nat.reduceBEq, Array.toList, ↓reduceIte, forall_const, implies_true, Nat.reduceEqDiff, reduceCtorEq, alP, bxP, bsP, ifP, quiet, riD, bs_l, PV.isRef, plainCell, norefL, PV.scalar, scalarL, PV.cells, PV.solid, PV.one, PV.free, freeL, fillP, splice, Nat.reduceAdd, Nat.reduceMul, Nat.reduceSub, Nat.reduceLeDiff, Nat.reduceLT, Int.reduceToNat, Int.reduceEq, Int.reduceLT, Int.reduceLE, Int.reduceNeg, E0_vc, vaN, PV.avoid, avoidL, Nat.reduceGT, W51, D51, gd_node, nodeP, List.length_map, Int.toNat_natCast, gd_m, hF, RB0]
 obtain ⟨st, hs1, hs2, hs3, hs4⟩ := hP.2.2
 simp only at hs1 hs2 hs3 hs4
 refine ⟨fun h => ?_, fun h => ?_⟩
 ·have hi : i < c.length := by omega
  have hgo := runS_go hi st
  have hn : c[i] = c.getD i noNode := by rw [List.getD_eq_getElem?_getD, List.getElem?_eq_getElem hi]; rfl
  have hmem : c.getD i noNode ∈ c := by rw [← hn]; exact List.getElem_mem hi
  rw [hs1, hn] at hgo
  generalize c.getD i noNode = n at *
  have hfin : ∀ (st' : List Int) (v : Int), fieldsOk n = true → stepS i n st = some st' → chain (F.set i v) st' → topIs (i + 1) st' → (i + 1 ≤ c.length ∧ (F.set i v).length = c.length ∧ ∃ st, runS ((i + 1 : Nat) : Int) (c.drop (i + 1)) st = runS 0 c [] ∧ topIs (i + 1) st ∧ chain (F.set i v) st ∧ ∀ y ∈ st, 0 ≤ y ∧ y < ((i + 1 : Nat) : Int)) := by
   intro st' v k1 k2 k3 k4
   refine ⟨by omega, by rw [List.length_set, hF], st', ?_, k4, k3, ?_⟩
   ·rw [hgo, k1, k2]; rfl
   ·exact (stepS_lt (by omega) k2 hs4).2
  have hno : stepS i n st = none → PV.val (Value.bool false) = vT (makesC c) := fun e => by
   rw [hmk, hgo, e]; simp
  refine ⟨by omega, hz.2 n hmem, fun hf => ?_, fun hf => ⟨fun h3 => ?_, fun h3 => ⟨fun h4 => ⟨fun _ => ?_, fun h => absurd h4 h⟩, fun h4 => ⟨fun h5 => ?_, fun h5 => ?_⟩⟩⟩⟩
  ·rw [hmk, hgo, show fieldsOk n = false from hf]; rfl
  ·have k := step3 h3 hs2 hs4
   refine ⟨fun _ => by unfold inI64; omega, fun hb => hno (k.1 hb), fun hb => ?_⟩
   have hb' : ¬ ((i : Int) = 0 ∨ ¬ n.a = (i : Int) - 1) := by simp only [Bool.or_eq_false_iff, decide_eq_false_iff_not, Bool.not_eq_eq_eq_not, Bool.not_false, decide_eq_true_eq] at hb; omega
   obtain ⟨r, k1, k2⟩ := k.2 hb'
   subst k1
   have ha := hs4 n.a (by simp)
   refine ⟨by omega, by omega, by omega, by omega, by unfold inI64; omega, (i + 1, F.set i (F.getD n.a.toNat 0)), hfin _ _ hf k2 (chain_rep (by omega) (fun y hy => hs4 y (by simp [hy])) hs3) (topIs_cons i r), by simp only; omega, ?_⟩
   simp only [RG0, RG1, Nat.reduceAdd, ltL, PV.lt, Blk.lt, Nat.reduceLT, Nat.reduceLeDiff, Wk_rfl, ltL_vI, wk_sl, put_m (show i < F.length by omega)] <;> omega
  ·have k := step45 (.inl h4) hs2 hs4 hs3
   refine ⟨.inl (by decide), fun _ => by unfold inI64; omega, ?_, ?_, ?_, ?_, ?_, fun hb => hno (k.1 hb), fun hb => ?_⟩
   ·intro hb
    have hb' : ¬ ((i : Int) = 0 ∨ ¬ n.b = (i : Int) - 1) := by simp only [Bool.or_eq_false_iff, decide_eq_false_iff_not, Bool.not_eq_eq_eq_not, Bool.not_false, decide_eq_true_eq] at hb; omega
    omega
   ·intro hb
    have hb' : ¬ ((i : Int) = 0 ∨ ¬ n.b = (i : Int) - 1) := by simp only [Bool.or_eq_false_iff, decide_eq_false_iff_not, Bool.not_eq_eq_eq_not, Bool.not_false, decide_eq_true_eq] at hb; omega
    omega
   ·intro hb
    have hb' : ¬ (((i : Int) = 0 ∨ ¬ n.b = (i : Int) - 1) ∨ F.getD n.b.toNat 0 = 0) := by simp only [Bool.or_eq_false_iff, decide_eq_false_iff_not, Bool.not_eq_eq_eq_not, Bool.not_false, decide_eq_true_eq] at hb; omega
    omega
   ·intro hb
    have hb' : ¬ (((i : Int) = 0 ∨ ¬ n.b = (i : Int) - 1) ∨ F.getD n.b.toNat 0 = 0) := by simp only [Bool.or_eq_false_iff, decide_eq_false_iff_not, Bool.not_eq_eq_eq_not, Bool.not_false, decide_eq_true_eq] at hb; omega
    omega
   ·intro hb
    have hb' : ¬ (((i : Int) = 0 ∨ ¬ n.b = (i : Int) - 1) ∨ F.getD n.b.toNat 0 = 0) := by simp only [Bool.or_eq_false_iff, decide_eq_false_iff_not, Bool.not_eq_eq_eq_not, Bool.not_false, decide_eq_true_eq] at hb; omega
    have hb2 := k.2.2 (fun h => hb' (.inl h))
    unfold inI64; omega
   have hb' : ¬ ((((i : Int) = 0 ∨ ¬ n.b = (i : Int) - 1) ∨ F.getD n.b.toNat 0 = 0) ∨ ¬ n.a = F.getD n.b.toNat 0 - 1) := by simp only [Bool.or_eq_false_iff, decide_eq_false_iff_not, Bool.not_eq_eq_eq_not, Bool.not_false, decide_eq_true_eq] at hb; omega
   obtain ⟨r, k1, k2⟩ := k.2.1 hb'
   subst k1
   have ha := hs4 n.a (by simp)
   refine ⟨by omega, by omega, by omega, by omega, by unfold inI64; omega, (i + 1, F.set i (F.getD n.a.toNat 0)), hfin _ _ hf k2 (chain_rep (by omega) (fun y hy => hs4 y (by simp [hy])) hs3.2) (topIs_cons i r), by simp only; omega, ?_⟩
   simp only [RG0, RG1, Nat.reduceAdd, ltL, PV.lt, Blk.lt, Nat.reduceLT, Nat.reduceLeDiff, Wk_rfl, ltL_vI, wk_sl, put_m (show i < F.length by omega)] <;> omega
  ·have k := step45 (.inr h5) hs2 hs4 hs3
   refine ⟨.inl (by decide), fun _ => by unfold inI64; omega, ?_, ?_, ?_, ?_, ?_, fun hb => hno (k.1 hb), fun hb => ?_⟩
   ·intro hb
    have hb' : ¬ ((i : Int) = 0 ∨ ¬ n.b = (i : Int) - 1) := by simp only [Bool.or_eq_false_iff, decide_eq_false_iff_not, Bool.not_eq_eq_eq_not, Bool.not_false, decide_eq_true_eq] at hb; omega
    omega
   ·intro hb
    have hb' : ¬ ((i : Int) = 0 ∨ ¬ n.b = (i : Int) - 1) := by simp only [Bool.or_eq_false_iff, decide_eq_false_iff_not, Bool.not_eq_eq_eq_not, Bool.not_false, decide_eq_true_eq] at hb; omega
    omega
   ·intro hb
    have hb' : ¬ (((i : Int) = 0 ∨ ¬ n.b = (i : Int) - 1) ∨ F.getD n.b.toNat 0 = 0) := by simp only [Bool.or_eq_false_iff, decide_eq_false_iff_not, Bool.not_eq_eq_eq_not, Bool.not_false, decide_eq_true_eq] at hb; omega
    omega
   ·intro hb
    have hb' : ¬ (((i : Int) = 0 ∨ ¬ n.b = (i : Int) - 1) ∨ F.getD n.b.toNat 0 = 0) := by simp only [Bool.or_eq_false_iff, decide_eq_false_iff_not, Bool.not_eq_eq_eq_not, Bool.not_false, decide_eq_true_eq] at hb; omega
    omega
   ·intro hb
    have hb' : ¬ (((i : Int) = 0 ∨ ¬ n.b = (i : Int) - 1) ∨ F.getD n.b.toNat 0 = 0) := by simp only [Bool.or_eq_false_iff, decide_eq_false_iff_not, Bool.not_eq_eq_eq_not, Bool.not_false, decide_eq_true_eq] at hb; omega
    have hb2 := k.2.2 (fun h => hb' (.inl h))
    unfold inI64; omega
   have hb' : ¬ ((((i : Int) = 0 ∨ ¬ n.b = (i : Int) - 1) ∨ F.getD n.b.toNat 0 = 0) ∨ ¬ n.a = F.getD n.b.toNat 0 - 1) := by simp only [Bool.or_eq_false_iff, decide_eq_false_iff_not, Bool.not_eq_eq_eq_not, Bool.not_false, decide_eq_true_eq] at hb; omega
   obtain ⟨r, k1, k2⟩ := k.2.1 hb'
   subst k1
   have ha := hs4 n.a (by simp)
   refine ⟨by omega, by omega, by omega, by omega, by unfold inI64; omega, (i + 1, F.set i (F.getD n.a.toNat 0)), hfin _ _ hf k2 (chain_rep (by omega) (fun y hy => hs4 y (by simp [hy])) hs3.2) (topIs_cons i r), by simp only; omega, ?_⟩
   simp only [RG0, RG1, Nat.reduceAdd, ltL, PV.lt, Blk.lt, Nat.reduceLT, Nat.reduceLeDiff, Wk_rfl, ltL_vI, wk_sl, put_m (show i < F.length by omega)] <;> omega
  ·have k := stepO (i := i) (st := st) h3 h4 h5
   refine ⟨by omega, by omega, by unfold inI64; omega, (i + 1, F.set i (i : Int)), hfin _ _ hf k (chain_put (by omega) hs4 hs3 ?_) (topIs_cons i st), by simp only; omega, ?_⟩
   ·cases st with
    | nil => have h0 : i = 0 := hs2; omega
    | cons x r => have h0 : x + 1 = (i : Int) := hs2; exact h0.symm
   ·simp only [RG0, RG1, Nat.reduceAdd, ltL, PV.lt, Blk.lt, Nat.reduceLT, Nat.reduceLeDiff, Wk_rfl, ltL_vI, wk_sl, put_m (show i < F.length by omega)] <;> omega
 ·have he : i = c.length := by omega
  subst he
  have hl := chain_last (by omega) hs2 hs4 hs3
  rw [List.drop_eq_nil_of_le (Nat.le_refl _)] at hs1
  refine ⟨by unfold inI64; omega, by omega, by omega, ?_⟩
  rw [hmk, ← hs1, show ((c.length : Int) - 1).toNat = c.length - 1 by omega, hl]; rfl
end Go.Ve.H
end
