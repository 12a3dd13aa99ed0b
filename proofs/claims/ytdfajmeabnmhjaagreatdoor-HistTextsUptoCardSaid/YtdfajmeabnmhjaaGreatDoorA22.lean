/- weirlaw30.HistTexts: part of the proof (a value semantics for the model's code, and the functions told by it). -/
import Derived.Test.YtdfajmeabnmhjaaGreatDoorA21
set_option linter.unusedSimpArgs false
set_option linter.unusedVariables false
set_option linter.deprecated false
set_option linter.unusedSectionVars false
set_option linter.defProp false
section
set_option maxRecDepth 10000
set_option maxHeartbeats 2000000
namespace Go.Ve.H
open Go Go.Proofs Go.Ve
def rDeepF (k : Nat) : List PV → Option (List Prop × PV) := pDeepF k
theorem rDeepE (k : Nat) (c : List Node) (o : Bool) (i : Int) : rDeepF k [.sl 6 (c.map nodeP) o, .val (.int .i64 i)] = some ([wfC c, c.length ≤ 1024, 0 ≤ i, i < c.length, i < k], vI (depth c i)) := pDeepE k c o i
def D56 (k : Nat) : FuncId → Option CB
 | 56 => some (.fn (rDeepF k))
 | 78 => some (.fn rBrackF)
 | _ => none
def W56 := And.intro @Tryz.results56 (And.intro @Tryz.underlying25 (And.intro @sz52 (And.intro @zd52 (And.intro @ag52 (And.intro @zp52 (And.intro @fa52_0 (And.intro @ag3 (And.intro @sz3 (And.intro @zd3 (And.intro @fa52_1 (And.intro @fa52_2 (And.intro @rDeepE (@rBrackE)))))))))))))
theorem rDeep_step (k : Nat) (h : Sound Tryz.prog G0 56 (conT (CB.fn (rDeepF k)).toCon)) : Sound Tryz.prog G0 56 (conT (CB.fn (rDeepF (k + 1))).toCon) := by
 have hD : AllB E0 (D56 k) := fun g c hg => by
  unfold D56 at hg
  split at hg <;> simp at hg <;> subst hg
  ·exact h
  ·exact rBrack_ok
 refine fn_of hD mixed true Tryz.func56 (by decide) rfl _ ?_
 intro args ps r hq hp
 obtain ⟨c, o, i, rfl, rfl, rfl⟩ := pDeepF_inv hq
 have hw := hp (wfC c) (by simp)
 have hl := hp (c.length ≤ 1024) (by simp)
 have h0 := hp (0 ≤ i) (by simp)
 have h1 := hp (i < c.length) (by simp)
 have hk := hp (i < (k + 1 : Nat)) (by simp)
 refine ⟨by simp [norefL, PV.noref, nr_map nr_node], ?_⟩
 simp only [awpBFn, Tryz.ntmps56, List.length_cons, List.length_nil, Nat.reduceAdd, Nat.reduceSub, List.replicate_succ, List.replicate_zero, List.cons_append, List.nil_append, List.map_cons, List.map_nil]
 have hE := rDeepE k c
 have hn := hw i.toNat _ (nd_at h0 h1)
 have hde := depth_eq hw h0 h1
 have hop : ∀ x : Int, 0 ≤ x → x < c.length → (c.getD x.toNat noNode).op = ndOp c x := fun x a b => by
  unfold ndOp; rw [nd_at a b]
 have hpt : ∀ (op x : Int) (s : Bool), 0 ≤ x → x < c.length → brack op (c.getD x.toNat noNode).op s = true → depth c x + 1 = partN c op x s := fun op x s a b h => by
  unfold partN; rw [← hop x a b, if_pos h]
 have hpf : ∀ (op x : Int) (s : Bool), 0 ≤ x → x < c.length → brack op (c.getD x.toNat noNode).op s = false → depth c x = partN c op x s := fun op x s a b h => by
  unfold partN; rw [← hop x a b, if_neg (by rw [h]; decide)]; omega
 have hmx : ∀ a b : Int, (if b > a then b else a) = max a b := fun a b => by rw [Int.max_def]; split <;> split <;> omega
 have hdl := fun x (a : (0 : Int) ≤ x) => deepN_le c (x.toNat + 1) x
 have hdl' : ∀ x : Int, 0 ≤ x → x < c.length → 0 ≤ depth c x ∧ depth c x ≤ 3000 := fun x a b => by
  have := hdl x a
  unfold depth; omega
 by_cases h3 : (c.getD i.toNat noNode).op = 3
 ·simp -implicitDefEqProofs (maxSteps := 2000000) only [R0, R1, R2, R3, R4, R5, R6, R7, R8, R9, R10, R11, R12, R13, R14, R15, R16, PV.strip, stripL, PV.noref, ri, feedL, feeds, Nat.reduceBEq, Array.toList, ↓reduceIte, forall_const, implies_true, Nat.reduceEqDiff, reduceCtorEq, alP, bxP, bsP, ifP, quiet, riD, bs_l, PV.isRef, plainCell, norefL, PV.scalar, scalarL, PV.cells, PV.solid, PV.one, PV.free, freeL, fillP, splice, Nat.reduceAdd, Nat.reduceMul, Nat.reduceSub, Nat.reduceLeDiff, Nat.reduceLT, Int.reduceToNat, Int.reduceEq, Int.reduceLT, Int.reduceLE, Int.reduceNeg, E0_vc, vaN, PV.avoid, avoidL, Nat.reduceGT, W56, D56, gd_node, nodeP, List.length_map, hE, h3, RB0]
  obtain ⟨a0, a1⟩ := hn.1 h3
  rw [if_pos h3, h3] at hde
  have hb := hdl' _ a0 (by omega)
  refine ⟨⟨h0, h1⟩, hw, hl, a0, by omega, by omega, .inl rfl, by omega, fun h => ⟨by unfold inI64; omega, by unfold inI64; omega, ?_⟩, fun h => ⟨by unfold inI64; omega, ?_⟩⟩
  ·rw [hde, ← hpt _ _ _ a0 (by omega) h, Int.add_comm 1]
  ·rw [hde, ← hpf _ _ _ a0 (by omega) h, Int.add_comm 1]
 by_cases h4 : (c.getD i.toNat noNode).op = 4
 ·simp -implicitDefEqProofs (maxSteps := 2000000) only [R0, R1, R2, R3, R4, R5, R6, R7, R8, R9, R10, R11, R12, R13, R14, R15, R16, PV.strip, stripL, PV.noref, ri, feedL, feeds, Nat.reduceBEq, Array.toList, ↓reduceIte, forall_const, implies_true, Nat.reduceEqDiff, reduceCtorEq, alP, bxP, bsP, ifP, quiet, riD, bs_l, PV.isRef, plainCell, norefL, PV.scalar, scalarL, PV.cells, PV.solid, PV.one, PV.free, freeL, fillP, splice, Nat.reduceAdd, Nat.reduceMul, Nat.reduceSub, Nat.reduceLeDiff, Nat.reduceLT, Int.reduceToNat, Int.reduceEq, Int.reduceLT, Int.reduceLE, Int.reduceNeg, E0_vc, vaN, PV.avoid, avoidL, Nat.reduceGT, W56, D56, gd_node, nodeP, List.length_map, hE, h4, RB0]
  obtain ⟨⟨a0, a1⟩, b0, b1⟩ := hn.2 (.inl h4)
  rw [if_neg h3, if_pos (.inl h4), h4] at hde
  have hb := hdl' _ a0 (by omega)
  have hc := hdl' _ b0 (by omega)
  refine ⟨⟨h0, h1⟩, hw, hl, a0, by omega, by omega, .inl rfl, by omega, fun h => ⟨by unfold inI64; omega, hw, hl, b0, by omega, by omega, .inl rfl, by omega, fun h' => ⟨by unfold inI64; omega, ?_⟩, fun h' => ?_⟩, fun h => ⟨hw, hl, b0, by omega, by omega, .inl rfl, by omega, fun h' => ⟨by unfold inI64; omega, ?_⟩, fun h' => ?_⟩⟩
  ·rw [hmx, hde, ← hpt _ _ _ a0 (by omega) h, ← hpt _ _ _ b0 (by omega) h']
  ·rw [hmx, hde, ← hpt _ _ _ a0 (by omega) h, ← hpf _ _ _ b0 (by omega) h']
  ·rw [hmx, hde, ← hpf _ _ _ a0 (by omega) h, ← hpt _ _ _ b0 (by omega) h']
  ·rw [hmx, hde, ← hpf _ _ _ a0 (by omega) h, ← hpf _ _ _ b0 (by omega) h']
 by_cases h5 : (c.getD i.toNat noNode).op = 5
 ·simp -implicitDefEqProofs (maxSteps := 2000000) only [R0, R1, R2, R3, R4, R5, R6, R7, R8, R9, R10, R11, R12, R13, R14, R15, R16, PV.strip, stripL, PV.noref, ri, feedL, feeds, Nat.reduceBEq, Array.toList, ↓reduceIte, forall_const, implies_true, Nat.reduceEqDiff, reduceCtorEq, alP, bxP, bsP, ifP, quiet, riD, bs_l, PV.isRef, plainCell, norefL, PV.scalar, scalarL, PV.cells, PV.solid, PV.one, PV.free, freeL, fillP, splice, Nat.reduceAdd, Nat.reduceMul, Nat.reduceSub, Nat.reduceLeDiff, Nat.reduceLT, Int.reduceToNat, Int.reduceEq, Int.reduceLT, Int.reduceLE, Int.reduceNeg, E0_vc, vaN, PV.avoid, avoidL, Nat.reduceGT, W56, D56, gd_node, nodeP, List.length_map, hE, h5, RB0]
  obtain ⟨⟨a0, a1⟩, b0, b1⟩ := hn.2 (.inr h5)
  rw [if_neg h3, if_pos (.inr h5), h5] at hde
  have hb := hdl' _ a0 (by omega)
  have hc := hdl' _ b0 (by omega)
  refine ⟨⟨h0, h1⟩, hw, hl, a0, by omega, by omega, .inl rfl, by omega, fun h => ⟨by unfold inI64; omega, hw, hl, b0, by omega, by omega, .inl rfl, by omega, fun h' => ⟨by unfold inI64; omega, ?_⟩, fun h' => ?_⟩, fun h => ⟨hw, hl, b0, by omega, by omega, .inl rfl, by omega, fun h' => ⟨by unfold inI64; omega, ?_⟩, fun h' => ?_⟩⟩
  ·rw [hmx, hde, ← hpt _ _ _ a0 (by omega) h, ← hpt _ _ _ b0 (by omega) h']
  ·rw [hmx, hde, ← hpt _ _ _ a0 (by omega) h, ← hpf _ _ _ b0 (by omega) h']
  ·rw [hmx, hde, ← hpf _ _ _ a0 (by omega) h, ← hpt _ _ _ b0 (by omega) h']
  ·rw [hmx, hde, ← hpf _ _ _ a0 (by omega) h, ← hpf _ _ _ b0 (by omega) h']
 simp -implicitDefEqProofs (maxSteps := 2000000) only [R0, R1, R2, R3, R4, R5, R6, R7, R8, R9, R10, R11, R12, R13, R14, R15, R16, PV.strip, stripL, PV.noref, ri, feedL, feeds, Nat.reduceBEq, Array.toList, ↓reduceIte, forall_const, implies_true, Nat.reduceEqDiff, reduceCtorEq, alP, bxP, bsP, ifP, quiet, riD, bs_l, PV.isRef, plainCell, norefL, PV.scalar, scalarL, PV.cells, PV.solid, PV.one, PV.free, freeL, fillP, splice, Nat.reduceAdd, Nat.reduceMul, Nat.reduceSub, Nat.reduceLeDiff, Nat.reduceLT, Int.reduceToNat, Int.reduceEq, Int.reduceLT, Int.reduceLE, Int.reduceNeg, E0_vc, vaN, PV.avoid, avoidL, Nat.reduceGT, W56, D56, gd_node, nodeP, List.length_map, hE, h3, h4, h5, RB0]
 rw [if_neg h3, if_neg (by omega)] at hde
 refine ⟨⟨h0, h1⟩, ?_⟩
 rw [hde]; rfl
theorem rDeep_all : ∀ k : Nat, Sound Tryz.prog G0 56 (conT (CB.fn (rDeepF k)).toCon)
 | 0 => ⟨⟨_, Tryz.func56, by decide, rfl⟩, fun Pr F R blks w args vs K _ _ _ _ _ ⟨r, ⟨ps, hq, hp⟩, _⟩ => by
  obtain ⟨c, o, i, rfl, rfl, rfl⟩ := pDeepF_inv hq
  have h0 := hp (0 ≤ i) (by simp)
  have hk := hp (i < (0 : Nat)) (by simp)
  omega⟩
 | k + 1 => rDeep_step k (rDeep_all k)
def rDeepGF := pDeepF 2000
theorem rDeepG_ok : Sound Tryz.prog G0 56 (conT (CB.fn rDeepGF).toCon) := rDeep_all 2000
theorem rDeepGE (c : List Node) (o : Bool) (i : Int) : rDeepGF [.sl 6 (c.map nodeP) o, .val (.int .i64 i)] = some ([wfC c, c.length ≤ 1024, 0 ≤ i, i < c.length, i < (2000 : Nat)], vI (depth c i)) := pDeepE 2000 c o i
end Go.Ve.H
end
section
set_option maxRecDepth 10000
set_option maxHeartbeats 2000000
namespace Go.Ve.H
open Go Go.Proofs Go.Ve
def onc (g : List Node → List Prop × PV) : List PV → Option (List Prop × PV)
 | [p] => match slD 6 nodeD p with
  | some c => some (g c)
  | none => none
 | _ => none
theorem onc_inv {g : List Node → List Prop × PV} {args : List PV} {x : List Prop × PV} (h : onc g args = some x) : ∃ j o c, args = [.sl j (c.map nodeP) o] ∧ (j = 6 ∨ c = []) ∧ x = g c := by
 unfold onc at h
 split at h
 ·split at h
  ·rename_i c h1
   injection h with h
   obtain ⟨j, o, rfl, hj⟩ := slD_inv (fun _ _ => nodeD_inv) h1
   exact ⟨j, o, c, rfl, hj, h.symm⟩
  ·cases h
 ·cases h
theorem onc_P {g : List Node → List Prop × PV} {j : Nat} {o : Bool} {c : List Node} (hj : j = 6 ∨ c = []) : onc g [.sl j (c.map nodeP) o] = some (g c) := by
 simp only [onc, slD_of nodeD_P hj]
def szC (c : List Node) : Prop := c.length ≤ 1099511627776 ∧ ∀ n ∈ c, n.ref.n.size ≤ 1099511627776
def mkF := onc fun c => ([szC c], vT (makesC c))
def pMakesF := mkF
def rMakesF := mkF
theorem pMakesE {j : Nat} {o : Bool} {c : List Node} (hj : j = 6 ∨ c = []) : pMakesF [.sl j (c.map nodeP) o] = some ([szC c], vT (makesC c)) := onc_P hj
theorem rMakesE {j : Nat} {o : Bool} {c : List Node} (hj : j = 6 ∨ c = []) : rMakesF [.sl j (c.map nodeP) o] = some ([szC c], vT (makesC c)) := onc_P hj
theorem makesC_len {c : List Node} (h : (c.length : Int) < 1 ∨ 1024 < (c.length : Int)) : makesC c = false := by
 unfold makesC
 rcases h with h | h
 ·rw [decide_eq_false (by omega)]; rfl
 ·rw [decide_eq_false (show ¬ (c.length : Int) ≤ 1024 by omega), Bool.and_false]; rfl
def D72 : FuncId → Option CB
 | 90 => some (.fn pFieldsF)
 | _ => none
theorem D72_ok : AllB E0 D72 := fun g c h => by
 unfold D72 at h
 split at h <;> simp at h <;> subst h
 ·exact pFields_ok
def W72 := And.intro @Tryz.results72 (And.intro @Tryz.underlying25 (And.intro @Tryz.underlying90 (And.intro @sz3 (And.intro @zs3 (And.intro @by3 (And.intro @zp3 (And.intro @zd3 (And.intro @sz52 (And.intro @zd52 (And.intro @ag52 (And.intro @zp52 (And.intro @fa52_0 (And.intro @ag3 (And.intro @fa52_1 (And.intro @fa52_2 (@pFieldsE))))))))))))))))
theorem pMakes_ok : Sound Tryz.prog G0 72 (conT (CB.fn pMakesF).toCon) := by
 refine fn_of D72_ok mixed true Tryz.func72 (by decide) rfl _ ?_
 intro args ps r hq hp
 obtain ⟨j, o, c, rfl, hj, hx⟩ := onc_inv hq
 obtain ⟨rfl, rfl⟩ := Prod.mk.inj hx
 have hz := hp (szC c) (by simp)
 refine ⟨by simp [norefL, PV.noref, nr_map nr_node], ?_⟩
 by_cases hlen : (c.length : Int) < 1 ∨ 1024 < (c.length : Int)
 ·have hm := makesC_len hlen
  simp only [awpBFn, Tryz.ntmps72, List.length_cons, List.length_nil, Nat.reduceAdd, Nat.reduceSub, List.replicate_succ, List.replicate_zero, List.cons_append, List.nil_append, List.map_cons, List.map_nil]
  have hd : (decide ((c.length : Int) < 1) || decide (1024 < (c.length : Int))) = true := by simpa using hlen
  simp -implicitDefEqProofs (maxSteps := 2000000) only [R0, R1, R2, R3, R4, R5, R6, R7, R8, R9, R10, R11, R12, R13, R14, R15, R16, PV.strip, stripL, PV.noref, ri, feedL, feeds, Nat.reduceBEq, Array.toList, ↓reduceIte, forall_const, implies_true, Nat.reduceEqDiff, reduceCtorEq, alP, bxP, bsP, ifP, quiet, riD, bs_l, PV.isRef, plainCell, norefL, PV.scalar, scalarL, PV.cells, PV.solid, PV.one, PV.free, freeL, fillP, splice, Nat.reduceAdd, Nat.reduceMul, Nat.reduceSub, Nat.reduceLeDiff, Nat.reduceLT, Int.reduceToNat, Int.reduceEq, Int.reduceLT, Int.reduceLE, Int.reduceNeg, E0_vc, vaN, PV.avoid, avoidL, Nat.reduceGT, W72, D72, gd_node, nodeP, List.length_map, hlen, hd, hm, RB0]
 have hj6 : j = 6 := hj.resolve_right (by rintro rfl; simp at hlen)
 subst hj6
 simp only [awpBFn, Tryz.ntmps72, List.length_cons, List.length_nil, Nat.reduceAdd, Nat.reduceSub, List.replicate_succ, List.replicate_zero, List.cons_append, List.nil_append, List.map_cons, List.map_nil]
 have hd1 : ¬ (c.length : Int) < 1 := fun h => hlen (.inl h)
 have hd2 : ¬ 1024 < (c.length : Int) := fun h => hlen (.inr h)
 simp -implicitDefEqProofs (maxSteps := 2000000) only [R0, R1, R2, R3, R4, R5, R6, R7, R8, R9, R10, R11, R12, R13, R14, R15, R16, PV.strip, stripL, PV.noref, ri, feedL, feeds, Nat.reduceBEq, Array.toList, ↓reduceIte, forall_const, implies_true, Nat.reduceEqDiff, reduceCtorEq, alP, bxP, bsP, ifP, quiet, riD, bs_l, PV.isRef, plainCell, norefL, PV.scalar, scalarL, PV.cells, PV.solid, PV.one, PV.free, freeL, fillP, splice, Nat.reduceAdd, Nat.reduceMul, Nat.reduceSub, Nat.reduceLeDiff, Nat.reduceLT, Int.reduceToNat, Int.reduceEq, Int.reduceLT, Int.reduceLE, Int.reduceNeg, E0_vc, vaN, PV.avoid, avoidL, Nat.reduceGT, W72, D72, gd_node, nodeP, List.length_map, hd1, hd2, Int.toNat_natCast, zeros1 (vI 0) rfl, RB0]
 have hroom : roomy c.length 8 = true := by
  unfold roomy; simp; omega
 have hmk : makesC c = runS 0 c [] := by
  unfold makesC
  rw [decide_eq_true (show 1 ≤ (c.length : Int) by omega), decide_eq_true (show (c.length : Int) ≤ 1024 by omega)]; rfl
 refine ⟨by omega, by omega, hroom, ?_⟩
 refine loopB_ov [1, 2, 4, 5, 6, 7, 8, 9, 10, 11, 12, 13, 14, 15, 16, 20, 21, 22, 23, 24, 25, 26, 27, 28, 29, 30, 31, 32, 33, 34, 35, 36, 37, 38, 39, 40, 41, 42, 43, 44, 45, 46, 47, 48, 49, 50, 51, 52, 53, 54, 55, 56, 57, 58, 59, 60, 61, 62, 63, 64, 65, 66, 67, 68, 69, 70, 71, 72, 73, 74, 75, 76, 77, 78, 79, 80, 81, 82, 83, 84, 85, 86, 87, 88, 89, 90, 91, 92, 93, 94, 95, 96, 97, 98] (fun x : Nat × List Int => [(0, .sl 6 (c.map nodeP) false), (19, vI x.1)]) 1 (fun x => [(0, .live (x.2.map vI))]) (fun x => x.1 ≤ c.length ∧ x.2.length = c.length ∧ ∃ st, runS x.1 (c.drop x.1) st = runS 0 c [] ∧ topIs x.1 st ∧ chain x.2 st ∧ ∀ y ∈ st, 0 ≤ y ∧ y < x.1) (fun x => c.length - x.1) (0, List.replicate c.length 0) ?_ ?_ ?_
 ·simp only [RG0, RG1, Nat.reduceAdd, ltL, PV.lt, Blk.lt, Nat.reduceLT, Nat.reduceLeDiff, Wk_rfl, ltL_vI, wk_sl, List.map_replicate]
 ·exact ⟨by omega, List.length_replicate, [], rfl, rfl, trivial, fun _ h => by cases h⟩
 rintro ⟨i, F⟩ hP
 have h1 : i ≤ c.length := hP.1
 have hF : F.length = c.length := hP.2.1
 simp -implicitDefEqProofs (maxSteps := 2000000) only [R0, R1, R2, R3, R4, R5, R6, R7, R8, R9, R10, R11, R12, R13, R14, R15, R16, PV.strip, stripL, PV.noref, ri, feedL, feeds, Nat.reduceBEq, Array.toList, ↓reduceIte, forall_const, implies_true, Nat.reduceEqDiff, reduceCtorEq, alP, bxP, bsP, ifP, quiet, riD, bs_l, PV.isRef, plainCell, norefL, PV.scalar, scalarL, PV.cells, PV.solid, PV.one, PV.free, freeL, fillP, splice, Nat.reduceAdd, Nat.reduceMul, Nat.reduceSub, Nat.reduceLeDiff, Nat.reduceLT, Int.reduceToNat, Int.reduceEq, Int.reduceLT, Int.reduceLE, Int.reduceNeg, E0_vc, vaN, PV.avoid, avoidL, Nat.reduceGT, W72, D72, gd_node, nodeP, List.length_map, Int.toNat_natCast, gd_m, hF, RB0]
 obtain ⟨st, hs1, hs2, hs3, hs4⟩ := hP.2.2
 simp only at hs1 hs2 hs3 hs4
 refine ⟨fun h => ?_, fun h => ?_⟩
 ·have hi : i < c.length := by omega
  have hgo := runS_go hi st
  have hn : c[i] = c.getD i noNode := by rw [List.getD_eq_getElem?_getD, List.getElem?_eq_getElem hi]; rfl
  have hmem : c.getD i noNode ∈ c := by rw [← hn]; exact List.getElem_mem hi
  rw [hs1, hn] at hgo
  generalize c.getD i noNode = n at *
  have hfin : ∀ (st' : List Int) (v : Int), fieldsOk n = true → stepS i n st = some st' → chain (F.set i v) st' → topIs (i + 1) st' → (i + 1 ≤ c.length ∧ (F.set i v).length = c.length ∧ ∃ st, runS ((i + 1 : Nat) : Int) (c.drop (i + 1)) st = runS 0 c [] ∧ topIs (i + 1) st ∧ chain (F.set i v) st ∧ ∀ y ∈ st, 0 ≤ y ∧ y < ((i + 1 : Nat) : Int)) := by
   intro st' v k1 k2 k3 k4
   refine ⟨by omega, by rw [List.length_set, hF], st', ?_, k4, k3, ?_⟩
   ·rw [hgo, k1, k2]; rfl
   ·exact (stepS_lt (by omega) k2 hs4).2
  have hno : stepS i n st = none → PV.val (Value.bool false) = vT (makesC c) := fun e => by
   rw [hmk, hgo, e]; simp
  refine ⟨by omega, hz.2 n hmem, fun hf => ?_, fun hf => ⟨fun h3 => ?_, fun h3 => ⟨fun h4 => ⟨fun _ => ?_, fun h => absurd h4 h⟩, fun h4 => ⟨fun h5 => ?_, fun h5 => ?_⟩⟩⟩⟩
  ·rw [hmk, hgo, show fieldsOk n = false from hf]; rfl
  ·have k := step3 h3 hs2 hs4
   refine ⟨fun _ => by unfold inI64; omega, fun hb => hno (k.1 hb), fun hb => ?_⟩
   have hb' : ¬ ((i : Int) = 0 ∨ ¬ n.a = (i : Int) - 1) := by simp only [Bool.or_eq_false_iff, decide_eq_false_iff_not, Bool.not_eq_eq_eq_not, Bool.not_false, decide_eq_true_eq] at hb; omega
   obtain ⟨r, k1, k2⟩ := k.2 hb'
   subst k1
   have ha := hs4 n.a (by simp)
   refine ⟨by omega, by omega, by omega, by omega, by unfold inI64; omega, (i + 1, F.set i (F.getD n.a.toNat 0)), hfin _ _ hf k2 (chain_rep (by omega) (fun y hy => hs4 y (by simp [hy])) hs3) (topIs_cons i r), by simp only; omega, ?_⟩
   simp only [RG0, RG1, Nat.reduceAdd, ltL, PV.lt, Blk.lt, Nat.reduceLT, Nat.reduceLeDiff, Wk_rfl, ltL_vI, wk_sl, put_m (show i < F.length by omega)] <;> omega
  ·have k := step45 (.inl h4) hs2 hs4 hs3
   refine ⟨.inl (by decide), fun _ => by unfold inI64; omega, ?_, ?_, ?_, ?_, ?_, fun hb => hno (k.1 hb), fun hb => ?_⟩
   ·intro hb
    have hb' : ¬ ((i : Int) = 0 ∨ ¬ n.b = (i : Int) - 1) := by simp only [Bool.or_eq_false_iff, decide_eq_false_iff_not, Bool.not_eq_eq_eq_not, Bool.not_false, decide_eq_true_eq] at hb; omega
    omega
   ·intro hb
    have hb' : ¬ ((i : Int) = 0 ∨ ¬ n.b = (i : Int) - 1) := by simp only [Bool.or_eq_false_iff, decide_eq_false_iff_not, Bool.not_eq_eq_eq_not, Bool.not_false, decide_eq_true_eq] at hb; omega
    omega
   ·intro hb
    have hb' : ¬ (((i : Int) = 0 ∨ ¬ n.b = (i : Int) - 1) ∨ F.getD n.b.toNat 0 = 0) := by simp only [Bool.or_eq_false_iff, decide_eq_false_iff_not, Bool.not_eq_eq_eq_not, Bool.not_false, decide_eq_true_eq] at hb; omega
    omega
   ·intro hb
    have hb' : ¬ (((i : Int) = 0 ∨ ¬ n.b = (i : Int) - 1) ∨ F.getD n.b.toNat 0 = 0) := by simp only [Bool.or_eq_false_iff, decide_eq_false_iff_not, Bool.not_eq_eq_eq_not, Bool.not_false, decide_eq_true_eq] at hb; omega
    omega
   ·intro hb
    have hb' : ¬ (((i : Int) = 0 ∨ ¬ n.b = (i : Int) - 1) ∨ F.getD n.b.toNat 0 = 0) := by simp only [Bool.or_eq_false_iff, decide_eq_false_iff_not, Bool.not_eq_eq_eq_not, Bool.not_false, decide_eq_true_eq] at hb; omega
    have hb2 := k.2.2 (fun h => hb' (.inl h))
    unfold inI64; omega
   have hb' : ¬ ((((i : Int) = 0 ∨ ¬ n.b = (i : Int) - 1) ∨ F.getD n.b.toNat 0 = 0) ∨ ¬ n.a = F.getD n.b.toNat 0 - 1) := by simp only [Bool.or_eq_false_iff, decide_eq_false_iff_not, Bool.not_eq_eq_eq_not, Bool.not_false, decide_eq_true_eq] at hb; omega
   obtain ⟨r, k1, k2⟩ := k.2.1 hb'
   subst k1
   have ha := hs4 n.a (by simp)
   refine ⟨by omega, by omega, by omega, by omega, by unfold inI64; omega, (i + 1, F.set i (F.getD n.a.toNat 0)), hfin _ _ hf k2 (chain_rep (by omega) (fun y hy => hs4 y (by simp [hy])) hs3.2) (topIs_cons i r), by simp only; omega, ?_⟩
   simp only [RG0, RG1, Nat.reduceAdd, ltL, PV.lt, Blk.lt, Nat.reduceLT, Nat.reduceLeDiff, Wk_rfl, ltL_vI, wk_sl, put_m (show i < F.length by omega)] <;> omega
  ·have k := step45 (.inr h5) hs2 hs4 hs3
   refine ⟨.inl (by decide), fun _ => by unfold inI64; omega, ?_, ?_, ?_, ?_, ?_, fun hb => hno (k.1 hb), fun hb => ?_⟩
   ·intro hb
    have hb' : ¬ ((i : Int) = 0 ∨ ¬ n.b = (i : Int) - 1) := by simp only [Bool.or_eq_false_iff, decide_eq_false_iff_not, Bool.not_eq_eq_eq_not, Bool.not_false, decide_eq_true_eq] at hb; omega
    omega
   ·intro hb
    have hb' : ¬ ((i : Int) = 0 ∨ ¬ n.b = (i : Int) - 1) := by simp only [Bool.or_eq_false_iff, decide_eq_false_iff_not, Bool.not_eq_eq_eq_not, Bool.not_false, decide_eq_true_eq] at hb; omega
    omega
   ·intro hb
    have hb' : ¬ (((i : Int) = 0 ∨ ¬ n.b = (i : Int) - 1) ∨ F.getD n.b.toNat 0 = 0) := by simp only [Bool.or_eq_false_iff, decide_eq_false_iff_not, Bool.not_eq_eq_eq_not, Bool.not_false, decide_eq_true_eq] at hb; omega
    omega
   ·intro hb
    have hb' : ¬ (((i : Int) = 0 ∨ ¬ n.b = (i : Int) - 1) ∨ F.getD n.b.toNat 0 = 0) := by simp only [Bool.or_eq_false_iff, decide_eq_false_iff_not, Bool.not_eq_eq_eq_not, Bool.not_false, decide_eq_true_eq] at hb; omega
    omega
   ·intro hb
    have hb' : ¬ (((i : Int) = 0 ∨ ¬ n.b = (i : Int) - 1) ∨ F.getD n.b.toNat 0 = 0) := by simp only [Bool.or_eq_false_iff, decide_eq_false_iff_not, Bool.not_eq_eq_eq_not, Bool.not_false, decide_eq_true_eq] at hb; omega
    have hb2 := k.2.2 (fun h => hb' (.inl h))
    unfold inI64; omega
   have hb' : ¬ ((((i : Int) = 0 ∨ ¬ n.b = (i : Int) - 1) ∨ F.getD n.b.toNat 0 = 0) ∨ ¬ n.a = F.getD n.b.toNat 0 - 1) := by simp only [Bool.or_eq_false_iff, decide_eq_false_iff_not, Bool.not_eq_eq_eq_not, Bool.not_false, decide_eq_true_eq] at hb; omega
   obtain ⟨r, k1, k2⟩ := k.2.1 hb'
   subst k1
   have ha := hs4 n.a (by simp)
   refine ⟨by omega, by omega, by omega, by omega, by unfold inI64; omega, (i + 1, F.set i (F.getD n.a.toNat 0)), hfin _ _ hf k2 (chain_rep (by omega) (fun y hy => hs4 y (by simp [hy])) hs3.2) (topIs_cons i r), by simp only; omega, ?_⟩
   simp only [RG0, RG1, Nat.reduceAdd, ltL, PV.lt, Blk.lt, Nat.reduceLT, Nat.reduceLeDiff, Wk_rfl, ltL_vI, wk_sl, put_m (show i < F.length by omega)] <;> omega
  ·have k := stepO (i := i) (st := st) h3 h4 h5
   refine ⟨by omega, by omega, by unfold inI64; omega, (i + 1, F.set i (i : Int)), hfin _ _ hf k (chain_put (by omega) hs4 hs3 ?_) (topIs_cons i st), by simp only; omega, ?_⟩
   ·cases st with
    | nil => have h0 : i = 0 := hs2; omega
    | cons x r => have h0 : x + 1 = (i : Int) := hs2; exact h0.symm
   ·simp only [RG0, RG1, Nat.reduceAdd, ltL, PV.lt, Blk.lt, Nat.reduceLT, Nat.reduceLeDiff, Wk_rfl, ltL_vI, wk_sl, put_m (show i < F.length by omega)] <;> omega
 ·have he : i = c.length := by omega
  subst he
  have hl := chain_last (by omega) hs2 hs4 hs3
  rw [List.drop_eq_nil_of_le (Nat.le_refl _)] at hs1
  refine ⟨by unfold inI64; omega, by omega, by omega, ?_⟩
  rw [hmk, ← hs1, show ((c.length : Int) - 1).toNat = c.length - 1 by omega, hl]; rfl
end Go.Ve.H
end
section
set_option maxRecDepth 10000
set_option maxHeartbeats 4000000
namespace Go.Ve.H
open Go Go.Proofs Go.Ve
def refOk (r : Ref) : Bool := decide (-1 ≤ r.t) && decide (r.t ≤ 9999) && isName r.n
def asc : Option Ref → List Ref → Bool
 | _, [] => true
 | p, r :: l => refOk r && (match p with | none => true | some q => decide (cmpRef q r < 0)) && asc (some r) l
def okRefs (l : List Ref) : Bool := asc none l && decide ((l.length : Int) ≤ 48)
def szR (l : List Ref) : Prop := l.length ≤ 1099511627776 ∧ ∀ r ∈ l, r.n.size ≤ 1099511627776
def preR (l : List Ref) (i : Nat) : Option Ref := if i = 0 then none else some (l.getD (i - 1) noRef)
theorem asc_cons (p : Option Ref) (r : Ref) (l : List Ref) : asc p (r :: l) = (refOk r && (match p with | none => true | some q => decide (cmpRef q r < 0)) && asc (some r) l) := by cases p <;> rfl
theorem pBeforeE' (t t' : Int) (n n' : ByteArray) : pBeforeF [.agg [vI t, vS n], .agg [vI t', vS n']] = some ([inI64 t, inI64 t'], vI (cmpRef ⟨t, n⟩ ⟨t', n'⟩)) := rfl
theorem rBelowE' (t t' : Int) (n n' : ByteArray) : rBelowF [.agg [vI t, vS n], .agg [vI t', vS n']] = some ([-1 ≤ t, -1 ≤ t'], vT (decide (cmpRef ⟨t, n⟩ ⟨t', n'⟩ < 0))) := rfl
theorem asc_go {l : List Ref} {i : Nat} (h : i < l.length) : asc (preR l i) (l.drop i) = (refOk (l.getD i noRef) && (if i = 0 then true else decide (cmpRef (l.getD (i - 1) noRef) (l.getD i noRef) < 0)) && asc (preR l (i + 1)) (l.drop (i + 1))) := by
 have hn : l[i] = l.getD i noRef := by rw [List.getD_eq_getElem?_getD, List.getElem?_eq_getElem h]; rfl
 rw [List.drop_eq_getElem_cons h, hn, asc_cons]
 have h2 : preR l (i + 1) = some (l.getD i noRef) := by unfold preR; rw [if_neg (by omega)]; rfl
 rw [h2]
 unfold preR
 by_cases h0 : i = 0
 ·rw [if_pos h0, if_pos h0]
 ·rw [if_neg h0, if_neg h0]
def onr (g : List Ref → List Prop × PV) : List PV → Option (List Prop × PV)
 | [p] => match slD 2 refD p with
  | some c => some (g c)
  | none => none
 | _ => none
theorem onr_inv {g : List Ref → List Prop × PV} {args : List PV} {x : List Prop × PV} (h : onr g args = some x) : ∃ j o c, args = [.sl j (c.map refP) o] ∧ (j = 2 ∨ c = []) ∧ x = g c := by
 unfold onr at h
 split at h
 ·split at h
  ·rename_i c h1
   injection h with h
   obtain ⟨j, o, rfl, hj⟩ := slD_inv (fun _ _ => refD_inv) h1
   exact ⟨j, o, c, rfl, hj, h.symm⟩
  ·cases h
 ·cases h
theorem onr_P {g : List Ref → List Prop × PV} {j : Nat} {o : Bool} {c : List Ref} (hj : j = 2 ∨ c = []) : onr g [.sl j (c.map refP) o] = some (g c) := by
 simp only [onr, slD_of refD_P hj]
def rightRF := onr fun l => ([szR l], vT (okRefs l))
theorem rightRE {j : Nat} {o : Bool} {l : List Ref} (hj : j = 2 ∨ l = []) : rightRF [.sl j (l.map refP) o] = some ([szR l], vT (okRefs l)) := onr_P hj
def D19 : FuncId → Option CB
 | 18 => some (.fn pNameF)
 | 47 => some (.fn pBeforeF)
 | _ => none
theorem D19_ok : AllB E0 D19 := fun g c h => by
 unfold D19 at h
 split at h <;> simp at h <;> subst h
 ·exact pName_ok
 ·exact pBefore_ok
theorem rightR_ok : Sound Tryz.prog G0 19 (conT (CB.fn rightRF).toCon) := by
 refine fn_of D19_ok mixed true Tryz.func19 (by decide) rfl _ ?_
 intro args ps r hq hp
 obtain ⟨j, o, l, rfl, hj, hx⟩ := onr_inv hq
 obtain ⟨rfl, rfl⟩ := Prod.mk.inj hx
 have hz := hp (szR l) (by simp)
 have hz1 := hz.1
 refine ⟨by simp [norefL, PV.noref, nr_map nr_ref], ?_⟩
 simp only [awpBFn, Tryz.ntmps19, List.length_cons, List.length_nil, Nat.reduceAdd, Nat.reduceSub, List.replicate_succ, List.replicate_zero, List.cons_append, List.nil_append, List.map_cons, List.map_nil]
 simp -implicitDefEqProofs (maxSteps := 2000000) only [R0, R1, R2, R3, R4, R5, R6, R7, R8, R9, R10, R11, R12, R13, R14, R15, R16, PV.strip, stripL, PV.noref, ri, feedL, feeds, Nat.reduceBEq, Array.toList, ↓reduceIte, forall_const, implies_true, Nat.reduceEqDiff, reduceCtorEq, alP, bxP, bsP, ifP, quiet, riD, bs_l, PV.isRef, plainCell, norefL, PV.scalar, scalarL, PV.cells, PV.solid, PV.one, PV.free, freeL, fillP, splice, Nat.reduceAdd, Nat.reduceMul, Nat.reduceSub, Nat.reduceLeDiff, Nat.reduceLT, Int.reduceToNat, Int.reduceEq, Int.reduceLT, Int.reduceLE, Int.reduceNeg, E0_vc, vaN, PV.avoid, avoidL, Nat.reduceGT, Tryz.results19, Tryz.underlying22, sz45, zd45, ag45, zp45, fa45_0, ag3, sz3, zd3, fa45_1, ag9, sz9, zd9, D19, pNameE, pBeforeE, gd_ref, refP, List.length_map, RB0]
 refine loopB_by (fun i : Nat => [.sl j (l.map refP) false, .junk, .junk, .junk, .junk, .sl j (l.map refP) false, vI l.length, vI i, .junk, .junk, .junk, .junk, .junk, .junk, .junk, .junk, .junk, .junk, .junk, .junk, .junk, .junk, .junk, .junk, .junk, .junk, .junk, .junk, .junk, .junk, .junk, .junk, .junk, .junk, .junk, .junk, .junk, .junk, .junk, .junk, .junk, .junk, .junk, .junk]) (fun _ => []) (fun i => i ≤ l.length ∧ asc (preR l i) (l.drop i) = asc none l ∧ (0 < i → -1 ≤ (l.getD (i - 1) noRef).t ∧ (l.getD (i - 1) noRef).t ≤ 9999)) (fun i => l.length - i) 0 ?_ ?_ ?_
 ·simp only [RG0, RG1, Nat.reduceAdd, ltL, PV.lt, Blk.lt, Nat.reduceLT, Nat.reduceLeDiff, Wk_rfl, ltL_vI, wk_sl]
 ·exact ⟨by omega, rfl, fun h => by omega⟩
 intro i hP
 have h1 := hP.1; have h2 := hP.2.1; have h3 := hP.2.2
 have hi1 : ((i : Int) - 1).toNat = i - 1 := by omega
 simp -implicitDefEqProofs (maxSteps := 2000000) only [R0, R1, R2, R3, R4, R5, R6, R7, R8, R9, R10, R11, R12, R13, R14, R15, R16, PV.strip, stripL, PV.noref, ri, feedL, feeds, Nat.reduceBEq, Array.toList, ↓reduceIte, forall_const, implies_true, Nat.reduceEqDiff, reduceCtorEq, alP, bxP, bsP, ifP, quiet, riD, bs_l, PV.isRef, plainCell, norefL, PV.scalar, scalarL, PV.cells, PV.solid, PV.one, PV.free, freeL, fillP, splice, Nat.reduceAdd, Nat.reduceMul, Nat.reduceSub, Nat.reduceLeDiff, Nat.reduceLT, Int.reduceToNat, Int.reduceEq, Int.reduceLT, Int.reduceLE, Int.reduceNeg, E0_vc, vaN, PV.avoid, avoidL, Nat.reduceGT, Tryz.results19, Tryz.underlying22, sz45, zd45, ag45, zp45, fa45_0, ag3, sz3, zd3, fa45_1, ag9, sz9, zd9, D19, pNameE, pBeforeE, gd_ref, refP, List.length_map, Int.toNat_natCast, hi1, pBeforeE', RB0]
 refine ⟨fun h => ⟨?_, by omega, .inl (by decide), ?_⟩, fun h => ?_⟩
 ·exact hj.resolve_right (by rintro rfl; simp at h <;> omega)
 ·have hi : i < l.length := by omega
  have hgo := asc_go hi
  rw [h2] at hgo
  have hj2 : j = 2 := hj.resolve_right (by rintro rfl; simp at hi)
  have hmem : l.getD i noRef ∈ l := by
   rw [List.getD_eq_getElem?_getD, List.getElem?_eq_getElem hi]; exact List.getElem_mem hi
  generalize hR : l.getD i noRef = r at *
  generalize hQ : l.getD (i - 1) noRef = q at *
  refine ⟨fun _ => hz.2 _ hmem, fun h => by unfold inI64; omega, fun _ => hj2, fun h => by omega, fun h => ?_, fun h => ?_, fun a b => ⟨a, b⟩, fun hb => ?_, fun hb => ⟨by unfold inI64; omega, i + 1, ⟨by omega, ?_, fun _ => ?_⟩, by omega, ?_⟩⟩
  ·have := h3 (by omega)
   unfold inI64; omega
  ·obtain ⟨h, _⟩ := h
   simp only [Bool.or_eq_false_iff, Bool.and_eq_false_iff, decide_eq_false_iff_not, Bool.not_eq_eq_eq_not, Bool.not_false, decide_eq_true_eq] at h
   unfold inI64; omega
  ·have : asc none l = false := by
    rw [hgo]
    rcases hb with (hb | hb) | hb
    ·have : refOk r = false := by
      unfold refOk
      rcases hb with hb | hb
      ·rw [decide_eq_false (show ¬ -1 ≤ r.t by omega)]; rfl
      ·rw [decide_eq_false (show ¬ r.t ≤ 9999 by omega)]; simp
     rw [this]; rfl
    ·have : refOk r = false := by unfold refOk; rw [hb]; simp
     rw [this]; rfl
    ·have hb2 : ¬ cmpRef q r < 0 := Int.not_lt.2 hb.2
     rw [if_neg (by omega), decide_eq_false hb2]; simp
   rw [okRefs, this]; rfl
  ·simp only [Bool.or_eq_false_iff, Bool.and_eq_false_iff, decide_eq_false_iff_not, Bool.not_eq_eq_eq_not, Bool.not_false, decide_eq_true_eq] at hb
   have hr : refOk r = true := by
    unfold refOk
    rw [decide_eq_true (show -1 ≤ r.t by omega), decide_eq_true (show r.t ≤ 9999 by omega), hb.1.2]; rfl
   rw [hgo, hr]
   by_cases h0 : i = 0
   ·rw [if_pos h0]; simp
   ·have hb3 : ¬ 0 ≤ cmpRef q r := hb.2.resolve_left (fun h => h (by omega))
    rw [if_neg h0, decide_eq_true (show cmpRef q r < 0 by omega)]; simp
  ·simp only [Bool.or_eq_false_iff, Bool.and_eq_false_iff, decide_eq_false_iff_not, Bool.not_eq_eq_eq_not, Bool.not_false, decide_eq_true_eq] at hb
   rw [show i + 1 - 1 = i by omega, hR]; omega
  ·simp only [RG0, RG1, Nat.reduceAdd, ltL, PV.lt, Blk.lt, Nat.reduceLT, Nat.reduceLeDiff, Wk_rfl, ltL_vI, wk_sl] <;> omega
 ·have he : i = l.length := by omega
  rw [okRefs, ← h2, he, List.drop_eq_nil_of_le (Nat.le_refl _)]
  cases preR l l.length <;> simp [asc]
def okRows (n : Int) : Int → Option Fin → List Row → Bool
 | _, _, [] => true
 | left, p, r :: l => decide (1 ≤ r.c) && decide (r.c ≤ left) && finOk r.f && decide (r.f.n = n) && (match p with | none => true | some q => decide (cmpFin q r.f < 0)) && okRows n (left - r.c) (some r.f) l
theorem okRows_cons (n left : Int) (p : Option Fin) (r : Row) (l : List Row) : okRows n left p (r :: l) = (decide (1 ≤ r.c) && decide (r.c ≤ left) && finOk r.f && decide (r.f.n = n) && (match p with | none => true | some q => decide (cmpFin q r.f < 0)) && okRows n (left - r.c) (some r.f) l) := by cases p <;> rfl
def preF (l : List Row) (i : Nat) : Option Fin := if i = 0 then none else some (l.getD (i - 1) noRow).f
theorem okRows_go {n left : Int} {l : List Row} {i : Nat} (h : i < l.length) : okRows n left (preF l i) (l.drop i) = (decide (1 ≤ (l.getD i noRow).c) && decide ((l.getD i noRow).c ≤ left) && finOk (l.getD i noRow).f && decide ((l.getD i noRow).f.n = n) && (if i = 0 then true else decide (cmpFin (l.getD (i - 1) noRow).f (l.getD i noRow).f < 0)) && okRows n (left - (l.getD i noRow).c) (preF l (i + 1)) (l.drop (i + 1))) := by
 have hn : l[i] = l.getD i noRow := by rw [List.getD_eq_getElem?_getD, List.getElem?_eq_getElem h]; rfl
 rw [List.drop_eq_getElem_cons h, hn, okRows_cons]
 have h2 : preF l (i + 1) = some (l.getD i noRow).f := by unfold preF; rw [if_neg (by omega)]; rfl
 rw [h2]
 unfold preF
 by_cases h0 : i = 0
 ·rw [if_pos h0, if_pos h0]
 ·rw [if_neg h0, if_neg h0]
theorem tk48 (f : Fin) : List.take 48 (f.v.map vI) = f.v.map vI := List.take_of_length_le (by rw [List.length_map, f.hl]; exact Nat.le_refl _)
theorem len48 (f : Fin) : (f.v.map vI).length = 48 := by rw [List.length_map, f.hl]
theorem strip_vI : ∀ l : List Int, stripL (l.map vI) = l.map vI
 | [] => rfl
 | x :: l => by simp only [List.map_cons, stripL, strip_vI l]; rfl
theorem tk48a (f : Fin) (B : List PV) : List.take 48 (f.v.map vI ++ B) = f.v.map vI := List.take_left' (len48 f)
theorem hl48 (f : Fin) : f.v.length = 48 := f.hl
def rightWF := on1h fun h => ([h.rows.length ≤ 1099511627776, h.refs.length ≤ 1099511627776], vT (okRows h.refs.length 9223372036854775807 none h.rows))
def D20 : FuncId → Option CB
 | 48 => some (.fn pFCheckF)
 | 49 => some (.fn pCompareF)
 | _ => none
theorem D20_ok : AllB E0 D20 := fun g c h => by
 unfold D20 at h
 split at h <;> simp at h <;> subst h
 ·exact pFCheck_ok
 ·exact pCompare_ok
theorem rightW_ok : Sound Tryz.prog G0 20 (conT (CB.fn rightWF).toCon) := by
 refine fn_of D20_ok mixed true Tryz.func20 (by decide) rfl _ ?_
 intro args ps r hq hp
 obtain ⟨p, h, rfl, hh, hx⟩ := on1h_inv hq
 obtain ⟨rfl, rfl⟩ := Prod.mk.inj hx
 have hz1 := hp (h.rows.length ≤ 1099511627776) (by simp)
 have hz2 := hp (h.refs.length ≤ 1099511627776) (by simp)
 refine ⟨by simp only [norefL, nr_hist hh, Bool.and_self], ?_⟩
 simp only [awpBFn, Tryz.ntmps20, List.length_cons, List.length_nil, Nat.reduceAdd, Nat.reduceSub, List.replicate_succ, List.replicate_zero, List.cons_append, List.nil_append, List.map_cons, List.map_nil]
 obtain ⟨j1, o1, j2, o2, j3, o3, rfl, k1, k2, k3⟩ := hh
 simp -implicitDefEqProofs (maxSteps := 2000000) only [R0, R1, R2, R3, R4, R5, R6, R7, R8, R9, R10, R11, R12, R13, R14, R15, R16, PV.strip, stripL, PV.noref, ri, feedL, feeds, Nat.reduceBEq, Array.toList, ↓reduceIte, forall_const, implies_true, Nat.reduceEqDiff, reduceCtorEq, alP, bxP, bsP, ifP, quiet, riD, bs_l, PV.isRef, plainCell, norefL, PV.scalar, scalarL, PV.cells, PV.solid, PV.one, PV.free, freeL, fillP, splice, Nat.reduceAdd, Nat.reduceMul, Nat.reduceSub, Nat.reduceLeDiff, Nat.reduceLT, Int.reduceToNat, Int.reduceEq, Int.reduceLT, Int.reduceLE, Int.reduceNeg, E0_vc, vaN, PV.avoid, avoidL, Nat.reduceGT, Tryz.results20, fa27_3, ag23, sz23, zd23, Tryz.underlying23, sz50, zd50, ag50, zp50, fa50_0, ag2, sz2, zd2, fa50_1, ag48, sz48, fa48_0, ag3, sz3, zd3, fa27_2, ag22, sz22, zd22, Tryz.underlying22, D20, pFCheckE, pCompareE, gd_row, List.length_map, RB0]
 refine loopB_by (fun x : Nat × Int => [.junk, .ptr 0 0, .junk, vI x.2, .junk, .junk, .junk, .sl j2 (h.rows.map rowP) false, vI h.rows.length, vI x.1, .junk, .junk, .junk, .junk, .junk, .junk, .junk, .junk, .junk, .junk, .junk, .junk, .junk, .junk, .junk, .junk, .junk, .junk, .junk, .junk, .junk, .junk, .junk, .junk, .junk, .junk, .junk, .junk, .junk, .junk, .junk, .junk, .junk, .junk, .junk, .junk, .junk, .junk, .junk, .junk, .junk, .junk, .junk, .junk, .junk, .junk, .junk, .junk]) (fun _ => [.live [vS h.name, vI h.quant, .sl j1 (h.refs.map refP) false, .sl j2 (h.rows.map rowP) false, .sl j3 (h.cond.map nodeP) false]])
  (fun x => x.1 ≤ h.rows.length ∧ 0 ≤ x.2 ∧ x.2 ≤ 9223372036854775807 ∧ okRows h.refs.length x.2 (preF h.rows x.1) (h.rows.drop x.1) = okRows h.refs.length 9223372036854775807 none h.rows) (fun x => h.rows.length - x.1) (0, 9223372036854775807) ?_ ?_ ?_
 ·simp only [RG0, RG1, Nat.reduceAdd, ltL, PV.lt, Blk.lt, Nat.reduceLT, Nat.reduceLeDiff, Wk_rfl, ltL_vI, wk_sl]
 ·exact ⟨by simp only; omega, by simp only; omega, by simp only; omega, rfl⟩
 intro x hP
 obtain ⟨i, left⟩ := x
 have h1 : i ≤ h.rows.length := hP.1
 have h2 : 0 ≤ left := hP.2.1
 have h4 : left ≤ 9223372036854775807 := hP.2.2.1
 have h3 := hP.2.2.2
 simp only at h3
 have hi1 : ((i : Int) - 1).toNat = i - 1 := by omega
 simp -implicitDefEqProofs (maxSteps := 2000000) only [R0, R1, R2, R3, R4, R5, R6, R7, R8, R9, R10, R11, R12, R13, R14, R15, R16, PV.strip, stripL, PV.noref, ri, feedL, feeds, Nat.reduceBEq, Array.toList, ↓reduceIte, forall_const, implies_true, Nat.reduceEqDiff, reduceCtorEq, alP, bxP, bsP, ifP, quiet, riD, bs_l, PV.isRef, plainCell, norefL, PV.scalar, scalarL, PV.cells, PV.solid, PV.one, PV.free, freeL, fillP, splice, Nat.reduceAdd, Nat.reduceMul, Nat.reduceSub, Nat.reduceLeDiff, Nat.reduceLT, Int.reduceToNat, Int.reduceEq, Int.reduceLT, Int.reduceLE, Int.reduceNeg, E0_vc, vaN, PV.avoid, avoidL, Nat.reduceGT, Tryz.results20, fa27_3, ag23, sz23, zd23, Tryz.underlying23, sz50, zd50, ag50, zp50, fa50_0, ag2, sz2, zd2, fa50_1, ag48, sz48, fa48_0, ag3, sz3, zd3, fa27_2, ag22, sz22, zd22, Tryz.underlying22, D20, pFCheckE, pCompareE, gd_row, rowP, PV.cells, tk48, tk48a, len48, hl48, strip_vI, List.replicate_zero, List.append_nil, List.length_map, Int.toNat_natCast, hi1, List.drop_replicate, Nat.sub_self, RB0]
 refine ⟨fun hc => ⟨?_, by omega, ?_⟩, fun hc => ?_⟩
 ·exact k2.resolve_right (by intro e; rw [e] at hc; simp at hc <;> omega)
 ·have hi : i < h.rows.length := by omega
  have hgo := @okRows_go h.refs.length left h.rows i hi
  rw [h3] at hgo
  have hj2 : j2 = 50 := k2.resolve_right (by intro e; rw [e] at hi; simp at hi)
  generalize hR : h.rows.getD i noRow = r at *
  generalize hQ : h.rows.getD (i - 1) noRow = q at *
  have hfin : ∀ b : Bool, ((if b = true then (0 : Int) else 4) = 0) = (b = true) := fun b => by cases b <;> simp
  simp only [hfin, len48, List.length_map, hl48]
  refine ⟨fun hb => ?_, fun hb => ?_⟩
  ·have : okRows h.refs.length 9223372036854775807 none h.rows = false := by
    rw [hgo]
    rcases hb with ((hb | hb) | hb) | hb
    ·rw [decide_eq_false (show ¬ 1 ≤ r.c by omega)]; rfl
    ·rw [decide_eq_false (show ¬ r.c ≤ left by omega)]; simp
    ·rw [Bool.not_eq_true] at hb; rw [hb]; simp
    ·rw [decide_eq_false hb]; simp
   rw [this]
  ·simp only [Bool.or_eq_false_iff, Bool.and_eq_false_iff, decide_eq_false_iff_not, Bool.not_eq_eq_eq_not, Bool.not_false, decide_eq_true_eq] at hb
   refine ⟨.inl (by decide), fun _ => by unfold inI64; omega, fun _ => hj2, fun _ => by omega, fun hb2 => ?_, fun hb2 => ⟨by unfold inI64; omega, by unfold inI64; omega, (i + 1, left - r.c), ⟨by simp only; omega, by simp only; omega, by simp only; omega, ?_⟩, by simp only; omega, ?_⟩⟩
   ·have : okRows h.refs.length 9223372036854775807 none h.rows = false := by
     rw [hgo, if_neg (by omega), decide_eq_false (show ¬ cmpFin q.f r.f < 0 by omega)]; simp
    rw [this]
   ·simp only [Bool.or_eq_false_iff, Bool.and_eq_false_iff, decide_eq_false_iff_not, Bool.not_eq_eq_eq_not, Bool.not_false, decide_eq_true_eq] at hb2
    simp only
    rw [hgo, decide_eq_true (show 1 ≤ r.c by omega), decide_eq_true (show r.c ≤ left by omega), hb.1.2, decide_eq_true hb.2]
    by_cases h0 : i = 0
    ·rw [if_pos h0]; simp
    ·rw [if_neg h0, decide_eq_true (show cmpFin q.f r.f < 0 by omega)]; simp
   ·simp only [RG0, RG1, Nat.reduceAdd, ltL, PV.lt, Blk.lt, Nat.reduceLT, Nat.reduceLeDiff, Wk_rfl, ltL_vI, wk_sl] <;> omega
 ·have he : i = h.rows.length := by omega
  rw [← h3, he, List.drop_eq_nil_of_le (Nat.le_refl _)]
  cases preF h.rows h.rows.length <;> rfl
end Go.Ve.H
end
section
set_option maxRecDepth 10000
set_option maxHeartbeats 8000000
namespace Go.Ve.H
open Go Go.Proofs Go.Ve
def fewF : List PV → Option (List Prop × PV)
 | [.val (.int .i64 n)] => some ([], vT (decide (n ≤ 2000)))
 | _ => none
theorem fewE (n : Int) : fewF [.val (.int .i64 n)] = some ([], vT (decide (n ≤ 2000))) := rfl
theorem few_ok : Sound Tryz.prog G0 4 (conT (CB.fn fewF).toCon) := by
 refine fn_of DN_ok mixed true Tryz.func4 (by decide) rfl _ ?_
 intro args ps r hq hp
 unfold fewF at hq
 split at hq <;> simp only [reduceCtorEq, Option.some.injEq, Prod.mk.injEq] at hq
 obtain ⟨rfl, rfl⟩ := hq
 refine ⟨rfl, ?_⟩
 simp only [awpBFn, Tryz.ntmps4, List.length_cons, List.length_nil, Nat.reduceAdd, Nat.reduceSub, List.replicate_succ, List.replicate_zero, List.cons_append, List.nil_append, List.map_cons, List.map_nil]
 simp -implicitDefEqProofs (maxSteps := 2000000) only [R0, R1, R2, R3, R4, R5, R6, R7, R8, R9, R10, R11, R12, R13, R14, R15, R16, PV.strip, stripL, PV.noref, ri, feedL, feeds, Nat.reduceBEq, Array.toList, ↓reduceIte, forall_const, implies_true, Nat.reduceEqDiff, reduceCtorEq, alP, bxP, bsP, ifP, quiet, riD, bs_l, PV.isRef, plainCell, norefL, PV.scalar, scalarL, PV.cells, PV.solid, PV.one, PV.free, freeL, fillP, splice, Nat.reduceAdd, Nat.reduceMul, Nat.reduceSub, Nat.reduceLeDiff, Nat.reduceLT, Int.reduceToNat, Int.reduceEq, Int.reduceLT, Int.reduceLE, Int.reduceNeg, E0_vc, vaN, PV.avoid, avoidL, Nat.reduceGT, Tryz.results4]
def SameHist (a b : Hist) : Prop := a.name = b.name ∧ a.quant = b.quant ∧ a.refs = b.refs ∧ a.rows = b.rows ∧ a.cond = b.cond
instance (a b : Hist) : Decidable (SameHist a b) := by unfold SameHist; infer_instance
def lenH (a : Hist) : Prop := a.refs.length ≤ 1099511627776 ∧ a.rows.length ≤ 1099511627776 ∧ a.cond.length ≤ 1099511627776
def sameF := on2h fun a b => ([lenH a], vT (decide (SameHist a b)))
theorem sameE {n n' : ByteArray} {q q' : Int} {r r' : List Ref} {s s' : List Row} {c c' : List Node} {j1 j2 j3 l1 l2 l3 : Nat} {o1 o2 o3 p1 p2 p3 : Bool} (h1 : j1 = 2 ∨ r = []) (h2 : j2 = 50 ∨ s = []) (h3 : j3 = 6 ∨ c = []) (m1 : l1 = 2 ∨ r' = []) (m2 : l2 = 50 ∨ s' = []) (m3 : l3 = 6 ∨ c' = []) :
  sameF [.agg [vS n, vI q, .sl j1 (r.map refP) o1, .sl j2 (s.map rowP) o2, .sl j3 (c.map nodeP) o3], .agg [vS n', vI q', .sl l1 (r'.map refP) p1, .sl l2 (s'.map rowP) p2, .sl l3 (c'.map nodeP) p3]] = some ([lenH ⟨n, q, r, s, c⟩], vT (decide (SameHist ⟨n, q, r, s, c⟩ ⟨n', q', r', s', c'⟩))) := by
 simp only [sameF, on2h, histD_of _ _ _ h1 h2 h3, histD_of _ _ _ m1 m2 m3]
def W29 := And.intro @Tryz.results29 (And.intro @fa27_0 (And.intro @ag9 (And.intro @sz9 (And.intro @zd9 (And.intro @fa27_1 (And.intro @ag3 (And.intro @sz3 (And.intro @zd3 (And.intro @fa27_2 (And.intro @ag22 (And.intro @sz22 (And.intro @zd22 (And.intro @Tryz.underlying22 (And.intro @fa27_3 (And.intro @ag23 (And.intro @sz23 (And.intro @zd23 (And.intro @Tryz.underlying23 (And.intro @fa27_4 (And.intro @ag25 (And.intro @sz25 (And.intro @zd25 (And.intro @Tryz.underlying25 (And.intro @sz45 (And.intro @zd45 (And.intro @ag45 (And.intro @eqt45 (And.intro @bin45 (And.intro @bb_ag (And.intro @sz50 (And.intro @zd50 (And.intro @ag50 (And.intro @eqt50 (And.intro @bin50 (And.intro @sz52 (And.intro @zd52 (And.intro @ag52 (And.intro @eqt52 (@bin52)))))))))))))))))))))))))))))))))))))))
theorem same_ok : Sound Tryz.prog G0 29 (conT (CB.fn sameF).toCon) := by
 refine fn_of DN_ok mixed true Tryz.func29 (by decide) rfl _ ?_
 intro args ps r hq hp
 obtain ⟨p, q, a, b, rfl, ha, hb, hx⟩ := on2h_inv hq
 obtain ⟨rfl, rfl⟩ := Prod.mk.inj hx
 have hz := hp (lenH a) (by simp)
 obtain ⟨hz1, hz2, hz3⟩ := hz
 refine ⟨by simp only [norefL, nr_hist ha, nr_hist hb, Bool.and_self], ?_⟩
 simp only [awpBFn, Tryz.ntmps29, List.length_cons, List.length_nil, Nat.reduceAdd, Nat.reduceSub, List.replicate_succ, List.replicate_zero, List.cons_append, List.nil_append, List.map_cons, List.map_nil]
 obtain ⟨j1, o1, j2, o2, j3, o3, rfl, k1, k2, k3⟩ := ha
 obtain ⟨l1, p1, l2, p2, l3, p3, rfl, m1, m2, m3⟩ := hb
 have hno : ¬ SameHist a b → PV.val (Value.bool false) = vT (decide (SameHist a b)) := fun h => by rw [decide_eq_false h]
 simp -implicitDefEqProofs (maxSteps := 2000000) only [R0, R1, R2, R3, R4, R5, R6, R7, R8, R9, R10, R11, R12, R13, R14, R15, R16, PV.strip, stripL, PV.noref, ri, feedL, feeds, Nat.reduceBEq, Array.toList, ↓reduceIte, forall_const, implies_true, Nat.reduceEqDiff, reduceCtorEq, alP, bxP, bsP, ifP, quiet, riD, bs_l, PV.isRef, plainCell, norefL, PV.scalar, scalarL, PV.cells, PV.solid, PV.one, PV.free, freeL, fillP, splice, Nat.reduceAdd, Nat.reduceMul, Nat.reduceSub, Nat.reduceLeDiff, Nat.reduceLT, Int.reduceToNat, Int.reduceEq, Int.reduceLT, Int.reduceLE, Int.reduceNeg, E0_vc, vaN, PV.avoid, avoidL, Nat.reduceGT, W29, List.length_map, RB0]
 refine ⟨fun h => hno ?_, fun hall => ?_⟩
 ·rintro ⟨e1, e2, e3, e4, e5⟩
  rw [e1, e2, e3, e4, e5] at h
  simp at h
 simp only [Bool.or_eq_false_iff, decide_eq_false_iff_not, Bool.not_eq_eq_eq_not, Bool.not_false, decide_eq_true_eq] at hall
 obtain ⟨⟨⟨⟨hn, hqq⟩, hl1⟩, hl2⟩, hl3⟩ := hall
 refine loopB_by (fun i : Nat => [.junk, .junk, .ptr 0 0, .ptr 1 0, .junk, vI i, .junk, .junk, .junk, .junk, .junk, .junk, .junk, .junk, .junk, .junk, .junk, .junk, .junk, .junk, .junk, .junk, .junk, .junk, .junk, .junk, .junk, .junk, .junk, .junk, .junk, .junk, .junk, .junk, .junk, .junk, .junk, .junk, .junk, .junk, .junk, .junk, .junk, .junk, .junk, .junk, .junk, .junk, .junk, .junk, .junk, .junk, .junk, .junk, .junk, .junk, .junk, .junk, .junk, .junk, .junk, .junk, .junk, .junk, .junk, .junk, .junk, .junk, .junk, .junk, .junk, .junk, .junk, .junk, .junk, .junk, .junk, .junk, .junk, .junk, .junk, .junk, .junk, .junk, .junk, .junk, .junk, .junk, .junk, .junk, .junk, .junk, .junk, .junk, .junk, .junk, .junk, .junk, .junk, .junk, .junk]) (fun _ => [.live [vS a.name, vI a.quant, .sl j1 (a.refs.map refP) false, .sl j2 (a.rows.map rowP) false, .sl j3 (a.cond.map nodeP) false], .live [vS b.name, vI b.quant, .sl l1 (b.refs.map refP) false, .sl l2 (b.rows.map rowP) false, .sl l3 (b.cond.map nodeP) false]])
  (fun i => i ≤ a.refs.length ∧ (a.refs.drop i = b.refs.drop i) = (a.refs = b.refs)) (fun i => a.refs.length - i) 0 ?_ ?_ ?_
 ·simp only [RG0, RG1, Nat.reduceAdd, ltL, PV.lt, Blk.lt, Nat.reduceLT, Nat.reduceLeDiff, Wk_rfl, ltL_vI, wk_sl]
 ·exact ⟨by omega, rfl⟩
 intro i hP
 have h1 := hP.1; have h2 := hP.2
 simp -implicitDefEqProofs (maxSteps := 2000000) only [R0, R1, R2, R3, R4, R5, R6, R7, R8, R9, R10, R11, R12, R13, R14, R15, R16, PV.strip, stripL, PV.noref, ri, feedL, feeds, Nat.reduceBEq, Array.toList, ↓reduceIte, forall_const, implies_true, Nat.reduceEqDiff, reduceCtorEq, alP, bxP, bsP, ifP, quiet, riD, bs_l, PV.isRef, plainCell, norefL, PV.scalar, scalarL, PV.cells, PV.solid, PV.one, PV.free, freeL, fillP, splice, Nat.reduceAdd, Nat.reduceMul, Nat.reduceSub, Nat.reduceLeDiff, Nat.reduceLT, Int.reduceToNat, Int.reduceEq, Int.reduceLT, Int.reduceLE, Int.reduceNeg, E0_vc, vaN, PV.avoid, avoidL, Nat.reduceGT, W29, gd_ref, refP, len48, hl48, tk48, strip_vI, PV.cells, Int.toNat_natCast, List.length_map, RB0]
 refine ⟨fun h => ?_, fun h => ?_⟩
 ·have hj1 : j1 = 2 := k1.resolve_right (by intro e; rw [e] at h; simp at h <;> omega)
  have hj2 : l1 = 2 := m1.resolve_right (by intro e; rw [e, List.length_nil] at hl1; omega)
  have hd := @drop_eq _ a.refs b.refs noRef i (by omega) (by omega)
  rw [h2] at hd
  refine ⟨.inl (by decide), hj1, by omega, hj2, by omega, fun hne => hno (fun hs => hne (hd.mp hs.2.2.1).1), fun he => ⟨by unfold inI64; omega, i + 1, ⟨by omega, ?_⟩, by omega, ?_⟩⟩
  ·rw [hd]; exact propext ⟨fun h => ⟨he, h⟩, fun h => h.2⟩
  ·simp only [RG0, RG1, Nat.reduceAdd, ltL, PV.lt, Blk.lt, Nat.reduceLT, Nat.reduceLeDiff, Wk_rfl, ltL_vI, wk_sl] <;> omega
 have er : a.refs = b.refs := by rw [← h2, List.drop_eq_nil_of_le (by omega), List.drop_eq_nil_of_le (by omega)]
 refine loopB_by (fun i : Nat => [.junk, .junk, .ptr 0 0, .ptr 1 0, .junk, .junk, vI i, .junk, .junk, .junk, .junk, .junk, .junk, .junk, .junk, .junk, .junk, .junk, .junk, .junk, .junk, .junk, .junk, .junk, .junk, .junk, .junk, .junk, .junk, .junk, .junk, .junk, .junk, .junk, .junk, .junk, .junk, .junk, .junk, .junk, .junk, .junk, .junk, .junk, .junk, .junk, .junk, .junk, .junk, .junk, .junk, .junk, .junk, .junk, .junk, .junk, .junk, .junk, .junk, .junk, .junk, .junk, .junk, .junk, .junk, .junk, .junk, .junk, .junk, .junk, .junk, .junk, .junk, .junk, .junk, .junk, .junk, .junk, .junk, .junk, .junk, .junk, .junk, .junk, .junk, .junk, .junk, .junk, .junk, .junk, .junk, .junk, .junk, .junk, .junk, .junk, .junk, .junk, .junk, .junk, .junk]) (fun _ => [.live [vS a.name, vI a.quant, .sl j1 (a.refs.map refP) false, .sl j2 (a.rows.map rowP) false, .sl j3 (a.cond.map nodeP) false], .live [vS b.name, vI b.quant, .sl l1 (b.refs.map refP) false, .sl l2 (b.rows.map rowP) false, .sl l3 (b.cond.map nodeP) false]])
  (fun i => i ≤ a.rows.length ∧ (a.rows.drop i = b.rows.drop i) = (a.rows = b.rows)) (fun i => a.rows.length - i) 0 ?_ ?_ ?_
 ·simp only [RG0, RG1, Nat.reduceAdd, ltL, PV.lt, Blk.lt, Nat.reduceLT, Nat.reduceLeDiff, Wk_rfl, ltL_vI, wk_sl]
 ·exact ⟨by omega, rfl⟩
 intro i hP
 have h1 := hP.1; have h2 := hP.2
 simp -implicitDefEqProofs (maxSteps := 2000000) only [R0, R1, R2, R3, R4, R5, R6, R7, R8, R9, R10, R11, R12, R13, R14, R15, R16, PV.strip, stripL, PV.noref, ri, feedL, feeds, Nat.reduceBEq, Array.toList, ↓reduceIte, forall_const, implies_true, Nat.reduceEqDiff, reduceCtorEq, alP, bxP, bsP, ifP, quiet, riD, bs_l, PV.isRef, plainCell, norefL, PV.scalar, scalarL, PV.cells, PV.solid, PV.one, PV.free, freeL, fillP, splice, Nat.reduceAdd, Nat.reduceMul, Nat.reduceSub, Nat.reduceLeDiff, Nat.reduceLT, Int.reduceToNat, Int.reduceEq, Int.reduceLT, Int.reduceLE, Int.reduceNeg, E0_vc, vaN, PV.avoid, avoidL, Nat.reduceGT, W29, gd_row, rowP, len48, hl48, tk48, strip_vI, PV.cells, Int.toNat_natCast, List.length_map, RB0]
 refine ⟨fun h => ?_, fun h => ?_⟩
 ·have hj1 : j2 = 50 := k2.resolve_right (by intro e; rw [e] at h; simp at h <;> omega)
  have hj2 : l2 = 50 := m2.resolve_right (by intro e; rw [e, List.length_nil] at hl2; omega)
  have hd := @drop_eq _ a.rows b.rows noRow i (by omega) (by omega)
  rw [h2] at hd
  refine ⟨.inl (by decide), hj1, by omega, hj2, by omega, fun hne => hno (fun hs => hne (hd.mp hs.2.2.2.1).1), fun he => ⟨by unfold inI64; omega, i + 1, ⟨by omega, ?_⟩, by omega, ?_⟩⟩
  ·rw [hd]; exact propext ⟨fun h => ⟨he, h⟩, fun h => h.2⟩
  ·simp only [RG0, RG1, Nat.reduceAdd, ltL, PV.lt, Blk.lt, Nat.reduceLT, Nat.reduceLeDiff, Wk_rfl, ltL_vI, wk_sl] <;> omega
 have ew : a.rows = b.rows := by rw [← h2, List.drop_eq_nil_of_le (by omega), List.drop_eq_nil_of_le (by omega)]
 refine loopB_by (fun i : Nat => [.junk, .junk, .ptr 0 0, .ptr 1 0, .junk, .junk, .junk, vI i, .junk, .junk, .junk, .junk, .junk, .junk, .junk, .junk, .junk, .junk, .junk, .junk, .junk, .junk, .junk, .junk, .junk, .junk, .junk, .junk, .junk, .junk, .junk, .junk, .junk, .junk, .junk, .junk, .junk, .junk, .junk, .junk, .junk, .junk, .junk, .junk, .junk, .junk, .junk, .junk, .junk, .junk, .junk, .junk, .junk, .junk, .junk, .junk, .junk, .junk, .junk, .junk, .junk, .junk, .junk, .junk, .junk, .junk, .junk, .junk, .junk, .junk, .junk, .junk, .junk, .junk, .junk, .junk, .junk, .junk, .junk, .junk, .junk, .junk, .junk, .junk, .junk, .junk, .junk, .junk, .junk, .junk, .junk, .junk, .junk, .junk, .junk, .junk, .junk, .junk, .junk, .junk, .junk]) (fun _ => [.live [vS a.name, vI a.quant, .sl j1 (a.refs.map refP) false, .sl j2 (a.rows.map rowP) false, .sl j3 (a.cond.map nodeP) false], .live [vS b.name, vI b.quant, .sl l1 (b.refs.map refP) false, .sl l2 (b.rows.map rowP) false, .sl l3 (b.cond.map nodeP) false]])
  (fun i => i ≤ a.cond.length ∧ (a.cond.drop i = b.cond.drop i) = (a.cond = b.cond)) (fun i => a.cond.length - i) 0 ?_ ?_ ?_
 ·simp only [RG0, RG1, Nat.reduceAdd, ltL, PV.lt, Blk.lt, Nat.reduceLT, Nat.reduceLeDiff, Wk_rfl, ltL_vI, wk_sl]
 ·exact ⟨by omega, rfl⟩
 intro i hP
 have h1 := hP.1; have h2 := hP.2
 simp -implicitDefEqProofs (maxSteps := 2000000) only [R0, R1, R2, R3, R4, R5, R6, R7, R8, R9, R10, R11, R12, R13, R14, R15, R16, PV.strip, stripL, PV.noref, ri, feedL, feeds, Nat.reduceBEq, Array.toList, ↓reduceIte, forall_const, implies_true, Nat.reduceEqDiff, reduceCtorEq, alP, bxP, bsP, ifP, quiet, riD, bs_l, PV.isRef, plainCell, norefL, PV.scalar, scalarL, PV.cells, PV.solid, PV.one, PV.free, freeL, fillP, splice, Nat.reduceAdd, Nat.reduceMul, Nat.reduceSub, Nat.reduceLeDiff, Nat.reduceLT, Int.reduceToNat, Int.reduceEq, Int.reduceLT, Int.reduceLE, Int.reduceNeg, E0_vc, vaN, PV.avoid, avoidL, Nat.reduceGT, W29, gd_node, nodeP, len48, hl48, tk48, strip_vI, PV.cells, Int.toNat_natCast, List.length_map, RB0]
 refine ⟨fun h => ?_, fun h => ?_⟩
 ·have hj1 : j3 = 6 := k3.resolve_right (by intro e; rw [e] at h; simp at h <;> omega)
  have hj2 : l3 = 6 := m3.resolve_right (by intro e; rw [e, List.length_nil] at hl3; omega)
  have hd := @drop_eq _ a.cond b.cond noNode i (by omega) (by omega)
  rw [h2] at hd
  refine ⟨.inl (by decide), hj1, by omega, hj2, by omega, fun hne => hno (fun hs => hne (hd.mp hs.2.2.2.2).1), fun he => ⟨by unfold inI64; omega, i + 1, ⟨by omega, ?_⟩, by omega, ?_⟩⟩
  ·rw [hd]; exact propext ⟨fun h => ⟨he, h⟩, fun h => h.2⟩
  ·simp only [RG0, RG1, Nat.reduceAdd, ltL, PV.lt, Blk.lt, Nat.reduceLT, Nat.reduceLeDiff, Wk_rfl, ltL_vI, wk_sl] <;> omega
 have ec : a.cond = b.cond := by rw [← h2, List.drop_eq_nil_of_le (by omega), List.drop_eq_nil_of_le (by omega)]
 have hyes : SameHist a b := ⟨hn, hqq, er, ew, ec⟩
 rw [decide_eq_true hyes]
end Go.Ve.H
end
