/- weirlaw30.HistAdds: part of the proof (a value semantics for the model's code, and the functions told by it). -/
import Derived.Test.YtelhcaefmpnfkaaA24
set_option linter.unusedSimpArgs false
set_option linter.unusedVariables false
set_option linter.deprecated false
set_option linter.unusedSectionVars false
set_option linter.defProp false
section
set_option maxRecDepth 10000
set_option maxHeartbeats 20000000
namespace Go.Ve.H
open Go Go.Proofs Go.Ve
def askd : List Node → List Ref
 | [] => []
 | n :: c => if n.op = 2 then n.ref :: askd c else askd c
theorem askd_snoc : ∀ (c : List Node) (n : Node), askd (c ++ [n]) = askd c ++ (if n.op = 2 then [n.ref] else [])
 | [], n => by simp only [List.nil_append, askd]
 | m :: c, n => by
  simp only [List.cons_append, askd, askd_snoc c n]
  split <;> rfl
theorem askd_go {c : List Node} {i : Nat} (h : i < c.length) : askd (c.take (i + 1)) = askd (c.take i) ++ (if (c.getD i noNode).op = 2 then [(c.getD i noNode).ref] else []) := by
 rw [List.take_succ, List.getElem?_eq_getElem h, List.getD_eq_getElem?_getD, List.getElem?_eq_getElem h]
 exact askd_snoc _ _
theorem askd_mem : ∀ (c : List Node) (x : Ref), x ∈ askd c ↔ ∃ n ∈ c, n.op = 2 ∧ n.ref = x
 | [], x => by simp [askd]
 | m :: c, x => by
  unfold askd
  split
  ·rename_i h
   simp only [List.mem_cons, askd_mem c x]
   constructor
   ·rintro (rfl | ⟨n, h1, h2⟩)
    ·exact ⟨m, .inl rfl, h, rfl⟩
    ·exact ⟨n, .inr h1, h2⟩
   ·rintro ⟨n, rfl | h1, h2⟩
    ·exact .inl h2.2.symm
    ·exact .inr ⟨n, h1, h2⟩
  ·rename_i h
   simp only [List.mem_cons, askd_mem c x]
   constructor
   ·rintro ⟨n, h1, h2⟩; exact ⟨n, .inr h1, h2⟩
   ·rintro ⟨n, rfl | h1, h2⟩
    ·exact absurd h2.1 h
    ·exact ⟨n, h1, h2⟩
theorem refsD_mem : ∀ (c : List Node) (l : List Ref) (x : Ref), x ∈ refsD c l ↔ x ∈ askd c ∨ x ∈ l
 | [], l, x => by simp [refsD, askd]
 | m :: c, l, x => by
  unfold refsD askd
  rw [refsD_mem]
  split
  ·rw [insR_mem, List.mem_cons, or_assoc, or_left_comm]
  ·exact Iff.rfl
theorem insR_asc : ∀ {l : List Ref} {r : Ref}, ascR l → ascR (insR l r)
 | [], r, _ => List.pairwise_singleton ..
 | q :: l, r, h => by
  obtain ⟨h1, h2⟩ := List.pairwise_cons.1 h
  unfold insR
  split
  ·rename_i hlt
   refine List.pairwise_cons.2 ⟨fun x hx => ?_, insR_asc h2⟩
   rcases (insR_mem l r x).1 hx with rfl | hx
   ·exact hlt
   ·exact h1 x hx
  ·split
   ·exact h
   ·rename_i hlt hne
    have hrq : cmpRef r q < 0 := by
     apply Decidable.byContradiction
     intro hn
     exact hne (cmpRef_tot hlt hn)
    refine List.pairwise_cons.2 ⟨fun x hx => ?_, h⟩
    rcases List.mem_cons.1 hx with rfl | hx
    ·exact hrq
    ·exact cmpRef_trans hrq (h1 x hx)
theorem refsD_asc : ∀ {c : List Node} {l : List Ref}, ascR l → ascR (refsD c l)
 | [], l, h => h
 | m :: c, l, h => by
  unfold refsD
  refine refsD_asc ?_
  split
  ·exact insR_asc h
  ·exact h
theorem refs_one {c : List Node} {l' : List Ref} (hp : l'.Perm (askd c)) (hs : l'.Pairwise fun a b => ¬ cmpRef b a < 0) : cmpt l' = refsD c [] := by
 refine ascR_ext (cmpt_asc l' hs) (refsD_asc List.Pairwise.nil) fun x => ?_
 rw [cmpt_mem, hp.mem_iff, refsD_mem]
 simp
def pRefsF := rRefsF
theorem pRefsE {j : Nat} {o : Bool} {c : List Node} (hj : j = 6 ∨ c = []) : pRefsF [.sl j (c.map nodeP) o] = some ([szC c], .tuple (if checkC c = 0 then [ansR (refsD c []), vI 0] else [.sl 0 [] true, vI (checkC c)])) := onc_P hj
theorem sortRE (Y : Option Yd) (args : List PV) (M : List Blk) (K : PV → List Blk → Prop) : conY Y (Con.gen sortRT sortRT_mono) args M K = sortRT args M K := rfl
theorem compE (Y : Option Yd) (args : List PV) (M : List Blk) (K : PV → List Blk → Prop) : conY Y (Con.gen compT compT_mono) args M K = compT args M K := rfl
theorem ltL_refs2 (n : Nat) : ∀ l : List Ref, ltL n (refs2 l) = true
 | [] => rfl
 | r :: l => by simp only [refs2, ltL, ltL_refs2 n l]; rfl
theorem ltL_app2 (n : Nat) : ∀ a b : List PV, ltL n (a ++ b) = (ltL n a && ltL n b)
 | [], b => rfl
 | x :: a, b => by simp only [List.cons_append, ltL, ltL_app2 n a b, Bool.and_assoc]
theorem ltL_junk (n m : Nat) : ltL n (List.replicate m .junk) = true := by
 induction m with
 | zero => rfl
 | succ m ih => simp only [List.replicate_succ, ltL, ih]; rfl
theorem ltL_refC (n : Nat) (l : List Ref) (cap : Nat) : ltL n (refC l cap) = true := by
 rw [refC_eq, ltL_app2, ltL_refs2, ltL_junk]; rfl
structure RpS where
 i : Nat
 cap : Nat
 n : Node
def nodeC (n : Node) : List PV := [vI n.op, vI n.a, vI n.b, vI n.ref.t, vS n.ref.n, vI n.val]
def slotP (l : List Ref) (cap : Nat) : PV := match l with
 | [] => .sl 0 [] true
 | _ :: _ => .rs 2 1 0 l.length cap
def blkP (n : Node) (l : List Ref) (cap : Nat) : List Blk := match l with
 | [] => []
 | _ :: _ => [.live (nodeC n), .live (refC l cap)]
theorem slotP_0 (cap : Nat) : slotP [] cap = .sl 0 [] true := rfl
theorem slotP_1 {l : List Ref} (h : ¬ l = []) (cap : Nat) : slotP l cap = .rs 2 1 0 l.length cap := by
 cases l with
 | nil => exact absurd rfl h
 | cons a l => rfl
theorem blkP_0 (n : Node) (cap : Nat) : blkP n [] cap = [] := rfl
theorem blkP_1 {n : Node} {l : List Ref} (h : ¬ l = []) (cap : Nat) : blkP n l cap = [.live (nodeC n), .live (refC l cap)] := by
 cases l with
 | nil => exact absurd rfl h
 | cons a l => rfl
def D25 : FuncId → Option CB
 | 38 => some (.fn pCCheckF)
 | 39 => some (.con (.gen sortRT sortRT_mono))
 | 40 => some (.fn pBelowF)
 | 41 => some (.con (.gen compT compT_mono))
 | _ => none
theorem D25_ok : AllB E0 D25 := fun g c h => by
 unfold D25 at h
 split at h <;> simp at h <;> subst h
 ·exact pCCheck_ok
 ·exact sortR_ok
 ·exact pBelow_ok
 ·exact comp_ok
def W25 := And.intro @Try.results25 (And.intro @Try.underlying25 (And.intro @sz46 (And.intro @zd46 (And.intro @ag46 (And.intro @zp46 (And.intro @fa46_0 (And.intro @ag3 (And.intro @sz3 (And.intro @zd3 (And.intro @fa46_3 (And.intro @ag39 (And.intro @sz39 (And.intro @Try.underlying22 (And.intro @zs39 (And.intro @by39 (And.intro @pCCheckE (And.intro @sortRE (And.intro @pBelowE (@compE)))))))))))))))))))
theorem pRefs_ok : Sound Try.prog G0 25 (conT (CB.fn pRefsF).toCon) := by
 refine fn_frzV (fun _ => [26]) D25_ok mixed true Try.func25 (by decide) rfl _ ?_
 intro args ps r hq hp
 obtain ⟨j, o, c, rfl, hj, hx⟩ := onc_inv hq
 obtain ⟨rfl, rfl⟩ := Prod.mk.inj hx
 have hz := hp (szC c) (by simp)
 refine ⟨by simp [norefL, PV.noref, nr_map nr_node], ?_⟩
 simp only [awpBFn, Try.ntmps25, List.length_cons, List.length_nil, Nat.reduceAdd, Nat.reduceSub, List.replicate_succ, List.replicate_zero, List.cons_append, List.nil_append, List.map_cons, List.map_nil]
 have hE := fun o => pCCheckE (o := o) hj
 by_cases hck : checkC c = 0
 case neg =>
  simp -implicitDefEqProofs (maxSteps := 2000000) only [R0, R1, R2, R3, R4, R5, R6, R7, R8, R9, R10, R11, R12, R13, R14, R15, R16, PV.strip, stripL, PV.noref, ri, feedL, feeds, Nat.reduceBEq, Array.toList, ↓reduceIte, forall_const, implies_true, Nat.reduceEqDiff, reduceCtorEq, alP, bxP, bsP, ifP, quiet, riD, bs_l, PV.isRef, plainCell, norefL, PV.scalar, scalarL, PV.cells, PV.solid, PV.one, PV.free, freeL, fillP, splice, Nat.reduceAdd, Nat.reduceMul, Nat.reduceSub, Nat.reduceLeDiff, Nat.reduceLT, Int.reduceToNat, Int.reduceEq, Int.reduceLT, Int.reduceLE, Int.reduceNeg, E0_vc, vaN, PV.avoid, avoidL, Nat.reduceGT, W25, D25, List.length_map, hE, hck, RB0]
  exact ⟨hz, rfl⟩
 have hm := checkC_makes hck
 have hl := makesC_ne hm
 have hj6 : j = 6 := hj.resolve_right (by rintro rfl; simp at hl)
 subst hj6
 simp -implicitDefEqProofs (maxSteps := 2000000) only [R0, R1, R2, R3, R4, R5, R6, R7, R8, R9, R10, R11, R12, R13, R14, R15, R16, PV.strip, stripL, PV.noref, ri, feedL, feeds, Nat.reduceBEq, Array.toList, ↓reduceIte, forall_const, implies_true, Nat.reduceEqDiff, reduceCtorEq, alP, bxP, bsP, ifP, quiet, riD, bs_l, PV.isRef, plainCell, norefL, PV.scalar, scalarL, PV.cells, PV.solid, PV.one, PV.free, freeL, fillP, splice, Nat.reduceAdd, Nat.reduceMul, Nat.reduceSub, Nat.reduceLeDiff, Nat.reduceLT, Int.reduceToNat, Int.reduceEq, Int.reduceLT, Int.reduceLE, Int.reduceNeg, E0_vc, vaN, PV.avoid, avoidL, Nat.reduceGT, W25, D25, List.length_map, hE, hck, RB0]
 refine ⟨hz, ?_⟩
 refine loopB_by (fun x : RpS => [.junk, .junk, .junk, .junk, .junk, slotP (askd (c.take x.i)) x.cap, .junk, .junk, .junk, .junk, .junk, .junk, .junk, .sl 6 (c.map nodeP) false, vI c.length, vI x.i, .junk, .junk, .junk, .junk, .junk, .junk, .junk, .junk, .junk, .junk, .junk, .junk, .junk, .junk, .junk, .junk]) (fun x => blkP x.n (askd (c.take x.i)) x.cap)
  (fun x => x.i ≤ c.length ∧ (askd (c.take x.i)).length ≤ x.cap ∧ (askd (c.take x.i)).length ≤ x.i) (fun x => c.length - x.i) ⟨0, 0, noNode⟩ ?_ ?_ ?_
 ·simp only [RG0, RG1, Nat.reduceAdd, ltL, PV.lt, Blk.lt, Nat.reduceLT, Nat.reduceLeDiff, Wk_rfl, ltL_vI, wk_sl, List.take_zero, askd, slotP_0, blkP_0]
 ·exact ⟨by simp only; omega, by simp [askd], by simp [askd]⟩
 intro x hP
 obtain ⟨i, cap, n0⟩ := x
 have q1 : i ≤ c.length := hP.1
 have q2 : (askd (c.take i)).length ≤ cap := hP.2.1
 have q3 : (askd (c.take i)).length ≤ i := hP.2.2
 have hroom : ∀ k : Nat, k ≤ 1100 → roomy k 24 = true := fun k hk => by unfold roomy; simp; omega
 by_cases hi : i < c.length
 case neg =>
  have hi2 : ¬ (i : Int) < c.length := by omega
  have hic : i = c.length := by omega
  subst hic
  rw [List.take_length] at q2 q3
  by_cases hl0 : askd c = []
  ·simp -implicitDefEqProofs (maxSteps := 2000000) only [R0, R1, R2, R3, R4, R5, R6, R7, R8, R9, R10, R11, R12, R13, R14, R15, R16, PV.strip, stripL, PV.noref, ri, feedL, feeds, Nat.reduceBEq, Array.toList, ↓reduceIte, forall_const, implies_true, Nat.reduceEqDiff, reduceCtorEq, alP, bxP, bsP, ifP, quiet, riD, bs_l, PV.isRef, plainCell, norefL, PV.scalar, scalarL, PV.cells, PV.solid, PV.one, PV.free, freeL, fillP, splice, Nat.reduceAdd, Nat.reduceMul, Nat.reduceSub, Nat.reduceLeDiff, Nat.reduceLT, Int.reduceToNat, Int.reduceEq, Int.reduceLT, Int.reduceLE, Int.reduceNeg, E0_vc, vaN, PV.avoid, avoidL, Nat.reduceGT, W25, D25, gd_node, nodeP, List.length_map, Int.toNat_natCast, Int.lt_irrefl, List.take_length, hl0, slotP_0, blkP_0, RB0]
   have he : refsD c [] = [] := by
    rw [← refs_one (c := c) (l' := []) (by rw [hl0]) .nil]; rfl
   rw [he]
   exact .inl ⟨0, false, rfl, .inl ⟨0, false, rfl, rfl, rfl, rfl⟩⟩
  ·have hs1 := slotP_1 hl0 cap
   have hb1 := blkP_1 (n := n0) hl0 cap
   simp -implicitDefEqProofs (maxSteps := 2000000) only [R0, R1, R2, R3, R4, R5, R6, R7, R8, R9, R10, R11, R12, R13, R14, R15, R16, PV.strip, stripL, PV.noref, ri, feedL, feeds, Nat.reduceBEq, Array.toList, ↓reduceIte, forall_const, implies_true, Nat.reduceEqDiff, reduceCtorEq, alP, bxP, bsP, ifP, quiet, riD, bs_l, PV.isRef, plainCell, norefL, PV.scalar, scalarL, PV.cells, PV.solid, PV.one, PV.free, freeL, fillP, splice, Nat.reduceAdd, Nat.reduceMul, Nat.reduceSub, Nat.reduceLeDiff, Nat.reduceLT, Int.reduceToNat, Int.reduceEq, Int.reduceLT, Int.reduceLE, Int.reduceNeg, E0_vc, vaN, PV.avoid, avoidL, Nat.reduceGT, W25, D25, gd_node, nodeP, List.length_map, Int.toNat_natCast, Int.lt_irrefl, List.take_length, hs1, hb1, RB0]
   have hai : ∀ r ∈ askd c, inI64 r.t := fun r hr => by
    obtain ⟨n, h1, h2, rfl⟩ := (askd_mem c r).1 hr
    have := fieldsOk_ref (makesC_fields hm n h1) h2
    unfold inI64; omega
   refine .inr ⟨1, cap, askd c, _, rfl, rfl, by omega, hai, fun l' hp hs => ?_⟩
   have hpl := hp.length_eq
   refine .inr ⟨cap, l', nodeC n0, _, by rw [hpl], by omega, by omega, rfl, fun rest' => ?_⟩
   rw [refs_one hp hs]
   have hne : ¬ refsD c [] = [] := fun h => by
    have h1 : ∀ x, ¬ x ∈ askd c := fun x hx => by
     have := (refsD_mem c [] x).2 (.inl hx)
     rw [h] at this; simp at this
    cases hcs : askd c with
    | nil => exact hl0 hcs
    | cons a l => exact h1 a (by rw [hcs]; simp)
   have hfr := frz_pair (M := [.live (nodeC n0), .live (refs2 (refsD c []) ++ rest')]) (b := 1) (cap := cap) (l := refsD c []) rfl 0
   refine ⟨?_, by rw [ansR, if_neg hne]; simp [PV.noref, norefL, nr_map nr_ref]⟩
   rw [ansR, if_neg hne]; exact hfr
 have hi' : (i : Int) < c.length := by omega
 have hgo := askd_go hi
 by_cases h2 : (c.getD i noNode).op = 2
 case neg =>
  rw [if_neg h2, List.append_nil] at hgo
  by_cases hl0 : askd (c.take i) = []
  ·simp -implicitDefEqProofs (maxSteps := 2000000) only [R0, R1, R2, R3, R4, R5, R6, R7, R8, R9, R10, R11, R12, R13, R14, R15, R16, PV.strip, stripL, PV.noref, ri, feedL, feeds, Nat.reduceBEq, Array.toList, ↓reduceIte, forall_const, implies_true, Nat.reduceEqDiff, reduceCtorEq, alP, bxP, bsP, ifP, quiet, riD, bs_l, PV.isRef, plainCell, norefL, PV.scalar, scalarL, PV.cells, PV.solid, PV.one, PV.free, freeL, fillP, splice, Nat.reduceAdd, Nat.reduceMul, Nat.reduceSub, Nat.reduceLeDiff, Nat.reduceLT, Int.reduceToNat, Int.reduceEq, Int.reduceLT, Int.reduceLE, Int.reduceNeg, E0_vc, vaN, PV.avoid, avoidL, Nat.reduceGT, W25, D25, gd_node, nodeP, List.length_map, Int.toNat_natCast, hi', h2, hl0, slotP_0, blkP_0, RB0]
   refine ⟨by omega, by unfold inI64; omega, ⟨i + 1, 0, noNode⟩, ⟨by simp only; omega, by simp only; rw [hgo, hl0]; simp, by simp only; rw [hgo, hl0]; simp⟩, by simp only; omega, ?_⟩
   simp only [RG0, RG1, Nat.reduceAdd, ltL, PV.lt, Blk.lt, Nat.reduceLT, Nat.reduceLeDiff, Wk_rfl, ltL_vI, wk_sl, hgo, hl0, slotP_0, blkP_0] <;> omega
  ·have hs1 := slotP_1 hl0 cap
   have hb1 := blkP_1 (n := n0) hl0 cap
   simp -implicitDefEqProofs (maxSteps := 2000000) only [R0, R1, R2, R3, R4, R5, R6, R7, R8, R9, R10, R11, R12, R13, R14, R15, R16, PV.strip, stripL, PV.noref, ri, feedL, feeds, Nat.reduceBEq, Array.toList, ↓reduceIte, forall_const, implies_true, Nat.reduceEqDiff, reduceCtorEq, alP, bxP, bsP, ifP, quiet, riD, bs_l, PV.isRef, plainCell, norefL, PV.scalar, scalarL, PV.cells, PV.solid, PV.one, PV.free, freeL, fillP, splice, Nat.reduceAdd, Nat.reduceMul, Nat.reduceSub, Nat.reduceLeDiff, Nat.reduceLT, Int.reduceToNat, Int.reduceEq, Int.reduceLT, Int.reduceLE, Int.reduceNeg, E0_vc, vaN, PV.avoid, avoidL, Nat.reduceGT, W25, D25, gd_node, nodeP, List.length_map, Int.toNat_natCast, hi', h2, hs1, hb1, RB0]
   refine ⟨by omega, by unfold inI64; omega, ⟨i + 1, cap, n0⟩, ⟨by simp only; omega, by simp only; rw [hgo]; exact q2, by simp only; rw [hgo]; omega⟩, by simp only; omega, ?_⟩
   simp only [RG0, RG1, Nat.reduceAdd, ltL, PV.lt, Blk.lt, Nat.reduceLT, Nat.reduceLeDiff, Wk_rfl, ltL_vI, wk_sl, hgo, hs1, hb1, nodeC, ltL_refC] <;> omega
 rw [if_pos h2] at hgo
 generalize hR : (c.getD i noNode).ref = r at *
 by_cases hl0 : askd (c.take i) = []
 ·simp -implicitDefEqProofs (maxSteps := 2000000) only [R0, R1, R2, R3, R4, R5, R6, R7, R8, R9, R10, R11, R12, R13, R14, R15, R16, PV.strip, stripL, PV.noref, ri, feedL, feeds, Nat.reduceBEq, Array.toList, ↓reduceIte, forall_const, implies_true, Nat.reduceEqDiff, reduceCtorEq, alP, bxP, bsP, ifP, quiet, riD, bs_l, PV.isRef, plainCell, norefL, PV.scalar, scalarL, PV.cells, PV.solid, PV.one, PV.free, freeL, fillP, splice, Nat.reduceAdd, Nat.reduceMul, Nat.reduceSub, Nat.reduceLeDiff, Nat.reduceLT, Int.reduceToNat, Int.reduceEq, Int.reduceLT, Int.reduceLE, Int.reduceNeg, E0_vc, vaN, PV.avoid, avoidL, Nat.reduceGT, W25, D25, gd_node, nodeP, List.length_map, Int.toNat_natCast, hi', h2, hR, hl0, slotP_0, blkP_0, rgA, RB0]
  have hne : ¬ askd (c.take (i + 1)) = [] := by rw [hgo]; simp
  have hl1 : (askd (c.take (i + 1))).length = 1 := by rw [hgo, hl0]; rfl
  have hone : ∀ m : Nat, padded (stripL (List.flatMap PV.cells [.agg [vI r.t, vS r.n]])) (m * 2) = refC (askd (c.take (i + 1))) m := fun m => by rw [hgo, hl0]; rfl
  refine ⟨by omega, zOne39, hroom 1 (by omega), fun c1 hc1 => ⟨by unfold inI64; omega, ⟨i + 1, c1, c.getD i noNode⟩, ⟨by simp only; omega, by simp only; rw [hl1]; exact hc1, by simp only; rw [hl1]; omega⟩, by simp only; omega, ?_⟩⟩
  simp only [RG0, RG1, Nat.reduceAdd, ltL, PV.lt, Blk.lt, Nat.reduceLT, Nat.reduceLeDiff, Wk_rfl, ltL_vI, wk_sl, hone, slotP_1 hne, blkP_1 hne, hl1, nodeC, h2, hR] <;> omega
 ·have hs1 := slotP_1 hl0 cap
  have hb1 := blkP_1 (n := n0) hl0 cap
  have hC := refC_len q2
  simp -implicitDefEqProofs (maxSteps := 2000000) only [R0, R1, R2, R3, R4, R5, R6, R7, R8, R9, R10, R11, R12, R13, R14, R15, R16, PV.strip, stripL, PV.noref, ri, feedL, feeds, Nat.reduceBEq, Array.toList, ↓reduceIte, forall_const, implies_true, Nat.reduceEqDiff, reduceCtorEq, alP, bxP, bsP, ifP, quiet, riD, bs_l, PV.isRef, plainCell, norefL, PV.scalar, scalarL, PV.cells, PV.solid, PV.one, PV.free, freeL, fillP, splice, Nat.reduceAdd, Nat.reduceMul, Nat.reduceSub, Nat.reduceLeDiff, Nat.reduceLT, Int.reduceToNat, Int.reduceEq, Int.reduceLT, Int.reduceLE, Int.reduceNeg, E0_vc, vaN, PV.avoid, avoidL, Nat.reduceGT, W25, D25, gd_node, nodeP, List.length_map, Int.toNat_natCast, hi', h2, hR, hs1, hb1, hC, rgA, RB0]
  have hne : ¬ askd (c.take (i + 1)) = [] := by rw [hgo]; simp
  have hl1 : (askd (c.take (i + 1))).length = (askd (c.take i)).length + 1 := by rw [hgo, List.length_append]; rfl
  have hone : ∀ m : Nat, padded (List.take ((askd (c.take i)).length * 2) (refC (askd (c.take i)) cap) ++ stripL (List.flatMap PV.cells [.agg [vI r.t, vS r.n]])) (m * 2) = refC (askd (c.take (i + 1))) m := fun m => by
   rw [blk_one (Nat.le_refl _), List.take_length, hgo]
  refine ⟨by omega, zOne39, refC_avoid _ _ _, ⟨rfl, rfl, rfl⟩, hroom _ (by omega), fun c1 hc1 => ⟨by unfold inI64; omega, ⟨i + 1, c1, n0⟩, ⟨by simp only; omega, by simp only; rw [hl1]; exact hc1, by simp only; rw [hl1]; omega⟩, by simp only; omega, ?_⟩⟩
  simp only [RG0, RG1, Nat.reduceAdd, ltL, PV.lt, Blk.lt, Nat.reduceLT, Nat.reduceLeDiff, Wk_rfl, ltL_vI, wk_sl, hone, slotP_1 hne, blkP_1 hne, hl1, nodeC, ltL_refC] <;> omega
end Go.Ve.H
end
namespace Go.Ve.H
open Go Go.Proofs Go.Ve
theorem putL_nil (x : Row) : putL [] x = [x] := by
 unfold putL; rw [if_neg (by intro h; exact absurd h.1 (by simp [putK]))]; rfl
theorem putL_cons (r : Row) (l : List Row) (x : Row) : putL (r :: l) x = if cmpFin r.f x.f < 0 then r :: putL l x else if r.f = x.f then ⟨r.c + x.c, r.f⟩ :: l else x :: r :: l := by
 by_cases h : cmpFin r.f x.f < 0
 ·rw [if_pos h]
  have hk : putK (r :: l) x = putK l x + 1 := by rw [putK, if_pos h]
  unfold putL
  rw [hk]
  have e : (putK l x + 1 < (r :: l).length ∧ ((r :: l).getD (putK l x + 1) noRow).f = x.f) = (putK l x < l.length ∧ (l.getD (putK l x) noRow).f = x.f) := by
   rw [List.length_cons, show (r :: l).getD (putK l x + 1) noRow = l.getD (putK l x) noRow from rfl]
   exact propext ⟨fun h => ⟨by omega, h.2⟩, fun h => ⟨by omega, h.2⟩⟩
  simp only [e]
  by_cases h2 : putK l x < l.length ∧ (l.getD (putK l x) noRow).f = x.f
  ·rw [if_pos h2, if_pos h2]; rfl
  ·rw [if_neg h2, if_neg h2]; rfl
 ·rw [if_neg h]
  have hk : putK (r :: l) x = 0 := by rw [putK, if_neg h]
  unfold putL
  rw [hk]
  by_cases h2 : r.f = x.f
  ·rw [if_pos h2, if_pos ⟨by simp, h2⟩]; rfl
  ·rw [if_neg h2, if_neg (fun h => h2 h.2)]; rfl
def mrgR : List Row → List Row → List Row
 | [], ys => ys
 | x :: xs, [] => x :: xs
 | x :: xs, y :: ys => if cmpFin x.f y.f < 0 then x :: mrgR xs (y :: ys) else if cmpFin x.f y.f = 0 then ⟨x.c + y.c, y.f⟩ :: mrgR xs ys else y :: mrgR (x :: xs) ys
termination_by xs ys => xs.length + ys.length
theorem mrgR_nil (ys : List Row) : mrgR [] ys = ys := by rw [mrgR]
theorem mrgR_end (xs : List Row) : mrgR xs [] = xs := by cases xs <;> rw [mrgR]
theorem mrgR_lt {x : Row} {xs ys : List Row} (h : ∀ z ∈ ys, cmpFin x.f z.f < 0) : mrgR (x :: xs) ys = x :: mrgR xs ys := by
 cases ys with
 | nil => rw [mrgR_end, mrgR_end]
 | cons z zs => rw [mrgR, if_pos (h z (by simp))]
theorem mrgR_put {y : Row} {ys : List Row} (hy : ∀ z ∈ ys, cmpFin y.f z.f < 0) : ∀ xs : List Row, mrgR (putL xs y) ys = mrgR xs (y :: ys)
 | [] => by rw [putL_nil, mrgR_lt hy, mrgR_nil, mrgR_nil]
 | x :: xs => by
  rw [putL_cons, mrgR]
  by_cases h : cmpFin x.f y.f < 0
  ·rw [if_pos h, if_pos h, mrgR_lt (fun z hz => cmpFin_trans h (hy z hz)), mrgR_put hy xs]
  ·rw [if_neg h, if_neg h]
   by_cases h2 : x.f = y.f
   ·rw [if_pos h2, if_pos (by rw [h2]; exact cmpFin_refl _), mrgR_lt (fun z hz => by rw [h2]; exact hy z hz), h2]
   ·rw [if_neg h2, if_neg (fun e => h2 (cmpFin_zero e)), mrgR_lt hy]
def ascW (l : List Row) : Prop := l.Pairwise fun a b => cmpFin a.f b.f < 0
theorem puts_mrg : ∀ (ys xs : List Row), ascW ys → ys.foldl putL xs = mrgR xs ys
 | [], xs, _ => by rw [mrgR_end]; rfl
 | y :: ys, xs, h => by
  have h2 := List.pairwise_cons.1 h
  rw [List.foldl_cons, puts_mrg ys (putL xs y) h2.2, mrgR_put h2.1]
theorem okRows_asc {n : Int} : ∀ {l : List Row} {left : Int} {p : Option Fin}, okRows n left p l = true → ascW l ∧ ∀ q, p = some q → ∀ z ∈ l, cmpFin q z.f < 0
 | [], _, _, _ => ⟨List.Pairwise.nil, fun _ _ _ h => by cases h⟩
 | r :: l, left, p, h => by
  rw [okRows_cons] at h
  simp only [Bool.and_eq_true, decide_eq_true_eq] at h
  obtain ⟨⟨⟨⟨⟨h1, h2⟩, h3⟩, h4⟩, h5⟩, h6⟩ := h
  obtain ⟨i1, i2⟩ := okRows_asc h6
  have i3 := i2 r.f rfl
  refine ⟨List.pairwise_cons.2 ⟨i3, i1⟩, ?_⟩
  rintro q rfl z hz
  have hq : cmpFin q r.f < 0 := by simpa using h5
  rcases List.mem_cons.1 hz with rfl | hz
  ·exact hq
  ·exact cmpFin_trans hq (i3 z hz)
end Go.Ve.H
namespace Go.Ve.H
open Go Go.Proofs Go.Ve
def total : List Row → Int
 | [] => 0
 | r :: l => r.c + total l
def posW (l : List Row) : Prop := ∀ r ∈ l, 1 ≤ r.c
theorem total_nn : ∀ {l : List Row}, posW l → 0 ≤ total l
 | [], _ => Int.le_refl _
 | r :: l, h => by
  have h1 := h r (by simp)
  have h2 := total_nn (l := l) (fun x hx => h x (by simp [hx]))
  rw [total]; omega
def takeR (left : Int) (r : Row) (k : Int → Option (List Row)) : Option (List Row) := if left < r.c then none else (k (left - r.c)).map (r :: ·)
def addP (M : Int) : Int → List Row → List Row → Option (List Row)
 | _, [], [] => some []
 | left, x :: xs, [] => takeR left x fun l => addP M l xs []
 | left, [], y :: ys => if M - 0 < y.c then none else takeR left ⟨0 + y.c, y.f⟩ fun l => addP M l [] ys
 | left, x :: xs, y :: ys =>
  if cmpFin x.f y.f < 0 then takeR left x fun l => addP M l xs (y :: ys)
  else if cmpFin x.f y.f = 0 then (if M - x.c < y.c then none else takeR left ⟨x.c + y.c, y.f⟩ fun l => addP M l xs ys)
  else if M - 0 < y.c then none else takeR left ⟨0 + y.c, y.f⟩ fun l => addP M l (x :: xs) ys
termination_by _ xs ys => xs.length + ys.length
def sumIf (left s : Int) (l : List Row) : Option (List Row) := if s ≤ left then some l else none
theorem take_sum {left : Int} {r : Row} {k : Int → Option (List Row)} {s : Int} {l : List Row} (hs : 0 ≤ s) (h : 0 ≤ left - r.c → k (left - r.c) = sumIf (left - r.c) s l) : takeR left r k = sumIf left (r.c + s) (r :: l) := by
 unfold takeR
 by_cases h1 : left < r.c
 ·rw [if_pos h1, sumIf, if_neg (by omega)]
 ·rw [if_neg h1, h (by omega), sumIf, sumIf]
  by_cases h2 : s ≤ left - r.c
  ·rw [if_pos h2, if_pos (by omega)]; rfl
  ·rw [if_neg h2, if_neg (by omega)]; rfl
theorem addP_eq (M : Int) : ∀ (left : Int) (xs ys : List Row), 0 ≤ left → left ≤ M → posW xs → posW ys → addP M left xs ys = sumIf left (total xs + total ys) (mrgR xs ys)
 | left, [], [], h0, _, _, _ => by
  rw [addP, sumIf, mrgR_nil, if_pos (by simp [total]; exact h0)]
 | left, x :: xs, [], h0, hM, hx, hy => by
  have px : posW xs := fun r hr => hx r (by simp [hr])
  have h1 := hx x (by simp)
  have ih := fun h => addP_eq M (left - x.c) xs [] h (by omega) px hy
  rw [addP, take_sum (total_nn px) (fun h => by rw [ih h, total, Int.add_zero, mrgR_end]), mrgR_end, total, total, Int.add_zero]
 | left, [], y :: ys, h0, hM, hx, hy => by
  have py : posW ys := fun r hr => hy r (by simp [hr])
  have h1 := hy y (by simp)
  have hn := total_nn py
  have ih := fun h => addP_eq M (left - (0 + y.c)) [] ys h (by omega) hx py
  have e : total [] + total (y :: ys) = (0 + y.c) + total ys := by simp only [total]; omega
  rw [addP, mrgR_nil, e]
  by_cases hb : M - 0 < y.c
  ·rw [if_pos hb, sumIf, if_neg (by omega)]
  ·rw [if_neg hb, take_sum (s := total ys) (l := ys) hn (fun h => by
    show addP M (left - (0 + y.c)) [] ys = _
    rw [ih h, mrgR_nil, show total [] + total ys = total ys by simp only [total]; omega])]
   simp only [Int.zero_add]
 | left, x :: xs, y :: ys, h0, hM, hx, hy => by
  have px : posW xs := fun r hr => hx r (by simp [hr])
  have py : posW ys := fun r hr => hy r (by simp [hr])
  have h1 := hx x (by simp)
  have h2 := hy y (by simp)
  have nx := total_nn px
  have ny := total_nn py
  rw [addP, mrgR]
  by_cases hc : cmpFin x.f y.f < 0
  ·have ih := fun h => addP_eq M (left - x.c) xs (y :: ys) h (by omega) px hy
   rw [if_pos hc, if_pos hc, take_sum (s := total xs + total (y :: ys)) (l := mrgR xs (y :: ys)) (by rw [total]; omega) ih]
   congr 1
   simp only [total]; omega
  ·rw [if_neg hc, if_neg hc]
   by_cases hz : cmpFin x.f y.f = 0
   ·have ih := fun h => addP_eq M (left - (x.c + y.c)) xs ys h (by omega) px py
    rw [if_pos hz, if_pos hz]
    by_cases hb : M - x.c < y.c
    ·rw [if_pos hb, sumIf, if_neg (by simp only [total]; omega)]
    ·rw [if_neg hb, take_sum (s := total xs + total ys) (l := mrgR xs ys) (by omega) ih]
     congr 1
     simp only [total]; omega
   ·have ih := fun h => addP_eq M (left - (0 + y.c)) (x :: xs) ys h (by omega) hx py
    rw [if_neg hz, if_neg hz]
    by_cases hb : M - 0 < y.c
    ·rw [if_pos hb, sumIf, if_neg (by simp only [total]; omega)]
    ·rw [if_neg hb, take_sum (s := total (x :: xs) + total ys) (l := mrgR (x :: xs) ys) (by simp only [total]; omega) ih]
     simp only [Int.zero_add]
     congr 1
     simp only [total]; omega
termination_by _ xs ys => xs.length + ys.length
end Go.Ve.H
section
set_option maxRecDepth 10000
set_option maxHeartbeats 20000000
namespace Go.Ve.H
open Go Go.Proofs Go.Ve
def okH (h : Hist) : Bool := isName h.name && decide (1 ≤ h.quant) && decide (h.quant ≤ 3) && okRefs h.refs && okRows h.refs.length 9223372036854775807 none h.rows && decide (checkC h.cond = 0) && (if h.rows = [] then decide (h.refs = []) else (refsD h.cond []).all fun r => decide (r ∈ h.refs))
def checkH (h : Hist) : Int := if okH h = true then 0 else 300
def szH (h : Hist) : Prop := h.name.size ≤ 1099511627776 ∧ szR h.refs ∧ h.rows.length ≤ 1099511627776 ∧ szC h.cond
def ckhF := on1h fun h => ([szH h], vI (checkH h))
def pHCheckF := ckhF
def rHCheckF := ckhF
theorem ckhE {n : ByteArray} {q : Int} {r : List Ref} {s : List Row} {c : List Node} {j1 j2 j3 : Nat} {o1 o2 o3 : Bool} (h1 : j1 = 2 ∨ r = []) (h2 : j2 = 50 ∨ s = []) (h3 : j3 = 6 ∨ c = []) :
  ckhF [.agg [vS n, vI q, .sl j1 (r.map refP) o1, .sl j2 (s.map rowP) o2, .sl j3 (c.map nodeP) o3]] = some ([szH ⟨n, q, r, s, c⟩], vI (checkH ⟨n, q, r, s, c⟩)) := by
 simp only [ckhF, on1h, histD_of _ _ _ h1 h2 h3]
theorem rightWE {n : ByteArray} {q : Int} {r : List Ref} {s : List Row} {c : List Node} {j1 j2 j3 : Nat} {o1 o2 o3 : Bool} (h1 : j1 = 2 ∨ r = []) (h2 : j2 = 50 ∨ s = []) (h3 : j3 = 6 ∨ c = []) :
  rightWF [.agg [vS n, vI q, .sl j1 (r.map refP) o1, .sl j2 (s.map rowP) o2, .sl j3 (c.map nodeP) o3]] = some ([s.length ≤ 1099511627776, r.length ≤ 1099511627776], vT (okRows r.length 9223372036854775807 none s)) := by
 simp only [rightWF, on1h, histD_of _ _ _ h1 h2 h3]
theorem ansR_eq (l : List Ref) : ∃ j, ansR l = .sl j (l.map refP) false ∧ (j = 2 ∨ l = []) := by
 unfold ansR
 by_cases h : l = []
 ·exact ⟨0, by rw [if_pos h, h]; rfl, .inr h⟩
 ·exact ⟨2, by rw [if_neg h], .inl rfl⟩
theorem refsD_len : ∀ (c : List Node) (l : List Ref), (refsD c l).length ≤ c.length + l.length
 | [], l => by simp [refsD]
 | m :: c, l => by
  unfold refsD
  refine Nat.le_trans (refsD_len c _) ?_
  have := insR_len l m.ref
  rw [List.length_cons]
  split <;> omega
theorem checkH_no {h : Hist} (e : okH h = false) : checkH h = 300 := by rw [checkH, e]; rfl
theorem checkH_ok {h : Hist} (e : okH h = true) : checkH h = 0 := by rw [checkH, if_pos e]
def D12 : FuncId → Option CB
 | 22 => some (.fn pNameF)
 | 23 => some (.fn rightRF)
 | 24 => some (.fn rightWF)
 | 25 => some (.fn pRefsF)
 | 26 => some (.fn contF)
 | _ => none
theorem D12_ok : AllB E0 D12 := fun g c h => by
 unfold D12 at h
 split at h <;> simp at h <;> subst h
 ·exact pName_ok
 ·exact rightR_ok
 ·exact rightW_ok
 ·exact pRefs_ok
 ·exact cont_ok
def W12 := And.intro @Try.results12 (And.intro @fa27_0 (And.intro @ag9 (And.intro @sz9 (And.intro @zd9 (And.intro @fa27_1 (And.intro @ag3 (And.intro @sz3 (And.intro @zd3 (And.intro @fa27_2 (And.intro @ag22 (And.intro @sz22 (And.intro @zd22 (And.intro @ag27 (And.intro @sz27 (And.intro @fa27_4 (And.intro @ag25 (And.intro @sz25 (And.intro @zd25 (And.intro @fa27_3 (And.intro @ag23 (And.intro @sz23 (And.intro @zd23 (And.intro @Try.underlying23 (And.intro @Try.underlying22 (And.intro @sz39 (And.intro @zd39 (And.intro @ag39 (And.intro @zp39 (And.intro @pNameE (And.intro @rightRE (And.intro @rightWE (And.intro @pRefsE (@contE)))))))))))))))))))))))))))))))))
theorem pHCheck_ok : Sound Try.prog G0 12 (conT (CB.fn pHCheckF).toCon) := by
 refine fn_of D12_ok mixed true Try.func12 (by decide) rfl _ ?_
 intro args ps r hq hp
 obtain ⟨p, h, rfl, hh, hx⟩ := on1h_inv hq
 obtain ⟨rfl, rfl⟩ := Prod.mk.inj hx
 have hz := hp (szH h) (by simp)
 refine ⟨by simp only [norefL, nr_hist hh, Bool.and_self], ?_⟩
 simp only [awpBFn, Try.ntmps12, List.length_cons, List.length_nil, Nat.reduceAdd, Nat.reduceSub, List.replicate_succ, List.replicate_zero, List.cons_append, List.nil_append, List.map_cons, List.map_nil]
 obtain ⟨j1, o1, j2, o2, j3, o3, rfl, k1, k2, k3⟩ := hh
 have e1 := fun o => rightRE (o := o) k1
 have e2 := fun a b c => rightWE (n := h.name) (q := h.quant) (o1 := a) (o2 := b) (o3 := c) k1 k2 k3
 have e3 := fun o => pRefsE (o := o) k3
 have e4 := fun o t n => contE (o := o) k1 t n
 obtain ⟨n, q, r, s, c⟩ := h
 simp only at e1 e2 e3 e4 k1 k2 k3 hz ⊢
 obtain ⟨z1, z2, z3, z4⟩ := hz
 simp only at z1 z2 z3 z4
 by_cases hck : checkC c = 0
 case neg =>
  have hno : checkH ⟨n, q, r, s, c⟩ = 300 := checkH_no (by unfold okH; rw [decide_eq_false hck]; simp)
  simp -implicitDefEqProofs (maxSteps := 2000000) only [R0, R1, R2, R3, R4, R5, R6, R7, R8, R9, R10, R11, R12, R13, R14, R15, R16, PV.strip, stripL, PV.noref, ri, feedL, feeds, Nat.reduceBEq, Array.toList, ↓reduceIte, forall_const, implies_true, Nat.reduceEqDiff, reduceCtorEq, alP, bxP, bsP, ifP, quiet, riD, bs_l, PV.isRef, plainCell, norefL, PV.scalar, scalarL, PV.cells, PV.solid, PV.one, PV.free, freeL, fillP, splice, Nat.reduceAdd, Nat.reduceMul, Nat.reduceSub, Nat.reduceLeDiff, Nat.reduceLT, Int.reduceToNat, Int.reduceEq, Int.reduceLT, Int.reduceLE, Int.reduceNeg, E0_vc, vaN, PV.avoid, avoidL, Nat.reduceGT, W12, D12, List.length_map, e1, e2, e3, e4, hck, hno, RB0]
  exact ⟨z1, fun _ => z2, fun _ => z3, fun _ => z2.1, fun _ => z4⟩
 have hcl := (makesC_ne (checkC_makes hck)).2
 obtain ⟨ja, hA, hja⟩ := ansR_eq (refsD c [])
 have hsz1 : ∀ b : Bool, (((((isName n = false ∨ q < 1) ∨ 3 < q) ∨ okRefs r = false) ∨ okRows (r.length : Int) 9223372036854775807 none s = false) → checkH ⟨n, q, r, s, c⟩ = 300) := fun b hb => by
  refine checkH_no ?_
  unfold okH
  rcases hb with (((hb | hb) | hb) | hb) | hb
  ·simp [hb]
  ·rw [decide_eq_false (show ¬ 1 ≤ q by omega)]; simp
  ·rw [decide_eq_false (show ¬ q ≤ 3 by omega)]; simp
  ·simp [hb]
  ·simp [hb]
 have hyes : (!isName n || decide (q < 1) || decide (3 < q) || !okRefs r || !okRows (r.length : Int) 9223372036854775807 none s) = false → okH ⟨n, q, r, s, c⟩ = (if s = [] then decide (r = []) else (refsD c []).all fun x => decide (x ∈ r)) := fun hb => by
  simp only [Bool.or_eq_false_iff, decide_eq_false_iff_not, Bool.not_eq_eq_eq_not, Bool.not_false] at hb
  unfold okH
  simp only [hb.1.1.1.1, hb.1.2, hb.2, hck, decide_true, Bool.and_true, Bool.true_and]
  rw [decide_eq_true (show 1 ≤ q by omega), decide_eq_true (show q ≤ 3 by omega)]; rfl
 by_cases hs : s = []
 ·have hs0 : (s.length : Int) = 0 := by rw [hs]; rfl
  have hs1 : ¬ 0 < (s.length : Int) := by omega
  by_cases hr : r = []
  ·have hr0 : ¬ 0 < (r.length : Int) := by rw [hr]; simp
   simp -implicitDefEqProofs (maxSteps := 2000000) only [R0, R1, R2, R3, R4, R5, R6, R7, R8, R9, R10, R11, R12, R13, R14, R15, R16, PV.strip, stripL, PV.noref, ri, feedL, feeds, Nat.reduceBEq, Array.toList, ↓reduceIte, forall_const, implies_true, Nat.reduceEqDiff, reduceCtorEq, alP, bxP, bsP, ifP, quiet, riD, bs_l, PV.isRef, plainCell, norefL, PV.scalar, scalarL, PV.cells, PV.solid, PV.one, PV.free, freeL, fillP, splice, Nat.reduceAdd, Nat.reduceMul, Nat.reduceSub, Nat.reduceLeDiff, Nat.reduceLT, Int.reduceToNat, Int.reduceEq, Int.reduceLT, Int.reduceLE, Int.reduceNeg, E0_vc, vaN, PV.avoid, avoidL, Nat.reduceGT, W12, D12, List.length_map, e1, e2, e3, e4, hck, hA, hs0, hr0, Int.lt_irrefl, decide_false, RB0]
   refine ⟨z1, fun _ => z2, fun _ => z3, fun _ => z2.1, fun hb => by rw [hsz1 true hb], fun hb => ⟨z4, ?_⟩⟩
   have hok : checkH ⟨n, q, r, s, c⟩ = 0 := checkH_ok (by rw [hyes hb, if_pos hs, hr]; rfl)
   refine loopB_by (fun i : Nat => [.junk, .ptr 0 0, .junk, .junk, .junk, .junk, .junk, .junk, .junk, .junk, .junk, .junk, .junk, .junk, .junk, .junk, .junk, .junk, .junk, .junk, .junk, .junk, .junk, .junk, .junk, .junk, .junk, .junk, .junk, .junk, .junk, .junk, .junk, .junk, .junk, .junk, .junk, .junk, .junk, .junk, .junk, .junk, .junk, .junk, .junk, .junk, .junk, .junk, .junk, .junk, .junk, .junk, .sl ja ((refsD c []).map refP) false, vI (refsD c []).length, vI i, .junk, .junk, .junk, .junk, .junk, .junk, .junk, .junk, .junk, .junk, .junk, .junk, .junk, .junk, .junk]) (fun _ => [.live [vS n, vI q, .sl j1 (r.map refP) false, .sl j2 (s.map rowP) false, .sl j3 (c.map nodeP) false]]) (fun i => i ≤ (refsD c []).length) (fun i => (refsD c []).length - i) 0 ?_ ?_ ?_
   ·simp only [RG0, RG1, Nat.reduceAdd, ltL, PV.lt, Blk.lt, Nat.reduceLT, Nat.reduceLeDiff, Wk_rfl, ltL_vI, wk_sl]
   ·omega
   intro i hP
   simp -implicitDefEqProofs (maxSteps := 2000000) only [R0, R1, R2, R3, R4, R5, R6, R7, R8, R9, R10, R11, R12, R13, R14, R15, R16, PV.strip, stripL, PV.noref, ri, feedL, feeds, Nat.reduceBEq, Array.toList, ↓reduceIte, forall_const, implies_true, Nat.reduceEqDiff, reduceCtorEq, alP, bxP, bsP, ifP, quiet, riD, bs_l, PV.isRef, plainCell, norefL, PV.scalar, scalarL, PV.cells, PV.solid, PV.one, PV.free, freeL, fillP, splice, Nat.reduceAdd, Nat.reduceMul, Nat.reduceSub, Nat.reduceLeDiff, Nat.reduceLT, Int.reduceToNat, Int.reduceEq, Int.reduceLT, Int.reduceLE, Int.reduceNeg, E0_vc, vaN, PV.avoid, avoidL, Nat.reduceGT, W12, D12, gd_ref, refP, List.length_map, e1, e2, e3, e4, hck, hA, hs0, hr0, hok, Int.toNat_natCast, Int.lt_irrefl, decide_false, RB0]
   intro hlt
   have hdl := refsD_len c []
   simp only [List.length_nil, Nat.add_zero] at hdl
   refine ⟨hja.resolve_right (by intro e; rw [e] at hlt; simp at hlt; omega), by omega, by unfold inI64; omega, i + 1, by omega, by omega, ?_⟩
   simp only [RG0, RG1, Nat.reduceAdd, ltL, PV.lt, Blk.lt, Nat.reduceLT, Nat.reduceLeDiff, Wk_rfl, ltL_vI, wk_sl] <;> omega
  ·have hrl : 0 < (r.length : Int) := by
    have := List.length_pos_iff.2 hr
    omega
   have hno : checkH ⟨n, q, r, s, c⟩ = 300 := checkH_no (by unfold okH; rw [if_pos hs, decide_eq_false hr]; simp)
   simp -implicitDefEqProofs (maxSteps := 2000000) only [R0, R1, R2, R3, R4, R5, R6, R7, R8, R9, R10, R11, R12, R13, R14, R15, R16, PV.strip, stripL, PV.noref, ri, feedL, feeds, Nat.reduceBEq, Array.toList, ↓reduceIte, forall_const, implies_true, Nat.reduceEqDiff, reduceCtorEq, alP, bxP, bsP, ifP, quiet, riD, bs_l, PV.isRef, plainCell, norefL, PV.scalar, scalarL, PV.cells, PV.solid, PV.one, PV.free, freeL, fillP, splice, Nat.reduceAdd, Nat.reduceMul, Nat.reduceSub, Nat.reduceLeDiff, Nat.reduceLT, Int.reduceToNat, Int.reduceEq, Int.reduceLT, Int.reduceLE, Int.reduceNeg, E0_vc, vaN, PV.avoid, avoidL, Nat.reduceGT, W12, D12, List.length_map, e1, e2, e3, e4, hck, hA, hrl, hs0, hno, RB0]
   exact ⟨z1, fun _ => z2, fun _ => z3, fun _ => z2.1, fun _ => z4⟩
 ·have hsl : 0 < (s.length : Int) := by
   have := List.length_pos_iff.2 hs
   omega
  have hsl2 : ¬ (s.length : Int) = 0 := by omega
  simp -implicitDefEqProofs (maxSteps := 2000000) only [R0, R1, R2, R3, R4, R5, R6, R7, R8, R9, R10, R11, R12, R13, R14, R15, R16, PV.strip, stripL, PV.noref, ri, feedL, feeds, Nat.reduceBEq, Array.toList, ↓reduceIte, forall_const, implies_true, Nat.reduceEqDiff, reduceCtorEq, alP, bxP, bsP, ifP, quiet, riD, bs_l, PV.isRef, plainCell, norefL, PV.scalar, scalarL, PV.cells, PV.solid, PV.one, PV.free, freeL, fillP, splice, Nat.reduceAdd, Nat.reduceMul, Nat.reduceSub, Nat.reduceLeDiff, Nat.reduceLT, Int.reduceToNat, Int.reduceEq, Int.reduceLT, Int.reduceLE, Int.reduceNeg, E0_vc, vaN, PV.avoid, avoidL, Nat.reduceGT, W12, D12, List.length_map, e1, e2, e3, e4, hck, hA, hsl, hsl2, RB0]
  refine ⟨z1, fun _ => z2, fun _ => z3, fun _ => z2.1, fun hb => by rw [hsz1 true hb], fun hb => ⟨z4, ?_⟩⟩
  have hy := hyes hb
  rw [if_neg hs] at hy
  refine loopB_by (fun i : Nat => [.junk, .ptr 0 0, .junk, .junk, .junk, .junk, .junk, .junk, .junk, .junk, .junk, .junk, .junk, .junk, .junk, .junk, .junk, .junk, .junk, .junk, .junk, .junk, .junk, .junk, .junk, .junk, .junk, .junk, .junk, .junk, .junk, .junk, .junk, .junk, .junk, .junk, .junk, .junk, .junk, .junk, .junk, .junk, .junk, .junk, .junk, .junk, .junk, .junk, .junk, .junk, .junk, .junk, .sl ja ((refsD c []).map refP) false, vI (refsD c []).length, vI i, .junk, .junk, .junk, .junk, .junk, .junk, .junk, .junk, .junk, .junk, .junk, .junk, .junk, .junk, .junk]) (fun _ => [.live [vS n, vI q, .sl j1 (r.map refP) false, .sl j2 (s.map rowP) false, .sl j3 (c.map nodeP) false]]) (fun i => i ≤ (refsD c []).length ∧ ∀ j, j < i → (refsD c []).getD j noRef ∈ r) (fun i => (refsD c []).length - i) 0 ?_ ?_ ?_
  ·simp only [RG0, RG1, Nat.reduceAdd, ltL, PV.lt, Blk.lt, Nat.reduceLT, Nat.reduceLeDiff, Wk_rfl, ltL_vI, wk_sl]
  ·exact ⟨by omega, fun j h => by omega⟩
  intro i hP
  have p1 := hP.1; have p2 := hP.2
  simp -implicitDefEqProofs (maxSteps := 2000000) only [R0, R1, R2, R3, R4, R5, R6, R7, R8, R9, R10, R11, R12, R13, R14, R15, R16, PV.strip, stripL, PV.noref, ri, feedL, feeds, Nat.reduceBEq, Array.toList, ↓reduceIte, forall_const, implies_true, Nat.reduceEqDiff, reduceCtorEq, alP, bxP, bsP, ifP, quiet, riD, bs_l, PV.isRef, plainCell, norefL, PV.scalar, scalarL, PV.cells, PV.solid, PV.one, PV.free, freeL, fillP, splice, Nat.reduceAdd, Nat.reduceMul, Nat.reduceSub, Nat.reduceLeDiff, Nat.reduceLT, Int.reduceToNat, Int.reduceEq, Int.reduceLT, Int.reduceLE, Int.reduceNeg, E0_vc, vaN, PV.avoid, avoidL, Nat.reduceGT, W12, D12, gd_ref, refP, List.length_map, e1, e2, e3, e4, hck, hA, hsl, hsl2, Int.toNat_natCast, RB0]
  have hdl := refsD_len c []
  simp only [List.length_nil, Nat.add_zero] at hdl
  refine ⟨fun hlt => ⟨hja.resolve_right (by intro e; rw [e] at hlt; simp at hlt; omega), by omega, z2.1, fun hn => ?_, fun hin => ⟨by unfold inI64; omega, i + 1, ⟨by omega, fun j hj => ?_⟩, by omega, ?_⟩⟩, fun hge => ?_⟩
  ·rw [checkH_no]
   rw [hy]
   apply Bool.eq_false_iff.2
   intro hall
   have := List.all_eq_true.1 hall ((refsD c []).getD i noRef) (by
    rw [List.getD_eq_getElem?_getD, List.getElem?_eq_getElem (by omega)]; exact List.getElem_mem _)
   exact hn (of_decide_eq_true this)
  ·by_cases e : j = i
   ·subst e; exact hin
   ·exact p2 j (by omega)
  ·simp only [RG0, RG1, Nat.reduceAdd, ltL, PV.lt, Blk.lt, Nat.reduceLT, Nat.reduceLeDiff, Wk_rfl, ltL_vI, wk_sl] <;> omega
  ·rw [checkH_ok]
   rw [hy, List.all_eq_true]
   intro x hx
   obtain ⟨j, hj, rfl⟩ := List.mem_iff_getElem.1 hx
   have := p2 j (by omega)
   rw [List.getD_eq_getElem?_getD, List.getElem?_eq_getElem hj] at this
   exact decide_eq_true this
end Go.Ve.H
end
section
set_option maxRecDepth 10000
set_option maxHeartbeats 20000000
namespace Go.Ve.H
open Go Go.Proofs Go.Ve
def D18 : FuncId → Option CB
 | 29 => some (.fn rNameF)
 | 30 => some (.fn rCCheckF)
 | 31 => some (.fn rBelowF)
 | 32 => some (.fn rFCheckF)
 | 33 => some (.fn rCompareF)
 | 34 => some (.fn rRefsF)
 | _ => none
theorem D18_ok : AllB E0 D18 := fun g c h => by
 unfold D18 at h
 split at h <;> simp at h <;> subst h
 ·exact rName_ok
 ·exact rCCheck_ok
 ·exact rBelow_ok
 ·exact rFCheck_ok
 ·exact rCompare_ok
 ·exact rRefs_ok
def W18 := And.intro @Try.results18 (And.intro @fa27_0 (And.intro @ag9 (And.intro @sz9 (And.intro @zd9 (And.intro @fa27_1 (And.intro @ag3 (And.intro @sz3 (And.intro @zd3 (And.intro @fa27_2 (And.intro @ag22 (And.intro @sz22 (And.intro @zd22 (And.intro @Try.underlying22 (And.intro @fa27_4 (And.intro @ag25 (And.intro @sz25 (And.intro @zd25 (And.intro @sz39 (And.intro @zd39 (And.intro @ag39 (And.intro @zp39 (And.intro @fa39_0 (And.intro @fa39_1 (And.intro @fa27_3 (And.intro @ag23 (And.intro @sz23 (And.intro @zd23 (And.intro @Try.underlying23 (And.intro @sz44 (And.intro @zd44 (And.intro @ag44 (And.intro @zp44 (And.intro @fa44_0 (And.intro @ag2 (And.intro @sz2 (And.intro @zd2 (And.intro @fa44_1 (And.intro @ag42 (And.intro @sz42 (And.intro @fa42_0 (And.intro @eqt39 (And.intro @bin39 (And.intro @bb_ag (And.intro @rNameE (And.intro @rCCheckE (And.intro @rBelowE (And.intro @rFCheckE (And.intro @rCompareE (@rRefsE)))))))))))))))))))))))))))))))))))))))))))))))))
theorem rHCheck_ok : Sound Try.prog G0 18 (conT (CB.fn rHCheckF).toCon) := by
 refine fn_of D18_ok mixed true Try.func18 (by decide) rfl _ ?_
 intro args ps r hq hp
 obtain ⟨p, h, rfl, hh, hx⟩ := on1h_inv hq
 obtain ⟨rfl, rfl⟩ := Prod.mk.inj hx
 have hz := hp (szH h) (by simp)
 refine ⟨by simp only [norefL, nr_hist hh, Bool.and_self], ?_⟩
 simp only [awpBFn, Try.ntmps18, List.length_cons, List.length_nil, Nat.reduceAdd, Nat.reduceSub, List.replicate_succ, List.replicate_zero, List.cons_append, List.nil_append, List.map_cons, List.map_nil]
 obtain ⟨j1, o1, j2, o2, j3, o3, rfl, k1, k2, k3⟩ := hh
 have e3 := fun o => rRefsE (o := o) k3
 have e4 := fun o => rCCheckE (o := o) k3
 obtain ⟨n, q, r, s, c⟩ := h
 simp only at e3 e4 k1 k2 k3 hz ⊢
 obtain ⟨z1, z2, z3, z4⟩ := hz
 simp only at z1 z2 z3 z4
 simp -implicitDefEqProofs (maxSteps := 2000000) only [R0, R1, R2, R3, R4, R5, R6, R7, R8, R9, R10, R11, R12, R13, R14, R15, R16, PV.strip, stripL, PV.noref, ri, feedL, feeds, Nat.reduceBEq, Array.toList, ↓reduceIte, forall_const, implies_true, Nat.reduceEqDiff, reduceCtorEq, alP, bxP, bsP, ifP, quiet, riD, bs_l, PV.isRef, plainCell, norefL, PV.scalar, scalarL, PV.cells, PV.solid, PV.one, PV.free, freeL, fillP, splice, Nat.reduceAdd, Nat.reduceMul, Nat.reduceSub, Nat.reduceLeDiff, Nat.reduceLT, Int.reduceToNat, Int.reduceEq, Int.reduceLT, Int.reduceLE, Int.reduceNeg, E0_vc, vaN, PV.avoid, avoidL, Nat.reduceGT, W18, D18, List.length_map, e3, e4, RB0]
 refine ⟨z1, fun _ => z4, fun hb => ?_, fun hb => ?_⟩
 ·rw [checkH_no]
  unfold okH
  rcases hb with (((hb | hb) | hb) | hb) | hb
  ·simp [hb]
  ·rw [decide_eq_false (show ¬ 1 ≤ q by omega)]; simp
  ·rw [decide_eq_false (show ¬ q ≤ 3 by omega)]; simp
  ·have : okRefs r = false := by unfold okRefs; rw [decide_eq_false (by omega)]; simp
   simp [this]
  ·rw [decide_eq_false hb]; simp
 simp only [Bool.or_eq_false_iff, decide_eq_false_iff_not, Bool.not_eq_eq_eq_not, Bool.not_false, decide_eq_true_eq] at hb
 obtain ⟨⟨⟨⟨u1, u2⟩, u3⟩, u4⟩, u5⟩ := hb
 have hcl := (makesC_ne (checkC_makes u5)).2
 have hne1 : asc none r = false → vI 300 = vI (checkH ⟨n, q, r, s, c⟩) := fun h => by
  rw [checkH_no]; unfold okH okRefs; simp [h]
 have hne2 : okRows r.length 9223372036854775807 none s = false → vI 300 = vI (checkH ⟨n, q, r, s, c⟩) := fun h => by
  rw [checkH_no]; unfold okH; simp [h]
 refine loopB_by (fun i : Nat => [.junk, .ptr 0 0, .junk, vI i, .junk, .junk, .junk, .junk, .junk, .junk, .junk, .junk, .junk, .junk, .junk, .junk, .junk, .junk, .junk, .junk, .junk, .junk, .junk, .junk, .junk, .junk, .junk, .junk, .junk, .junk, .junk, .junk, .junk, .junk, .junk, .junk, .junk, .junk, .junk, .junk, .junk, .junk, .junk, .junk, .junk, .junk, .junk, .junk, .junk, .junk, .junk, .junk, .junk, .junk, .junk, .junk, .junk, .junk, .junk, .junk, .junk, .junk, .junk, .junk, .junk, .junk, .junk, .junk, .junk, .junk, .junk, .junk, .junk, .junk, .junk, .junk, .junk, .junk, .junk, .junk, .junk, .junk, .junk, .junk, .junk, .junk, .junk, .junk, .junk, .junk, .junk, .junk, .junk, .junk, .junk, .junk, .junk, .junk, .junk, .junk, .junk, .junk, .junk, .junk, .junk, .junk, .junk, .junk, .junk, .junk, .junk, .junk, .junk, .junk, .junk, .junk, .junk, .junk, .junk, .junk, .junk, .junk, .junk, .junk, .junk, .junk, .junk, .junk, .junk, .junk, .junk, .junk, .junk, .junk, .junk, .junk, .junk, .junk, .junk, .junk, .junk, .junk, .junk, .junk, .junk, .junk, .junk, .junk, .junk, .junk, .junk, .junk, .junk, .junk, .junk, .junk, .junk, .junk, .junk, .junk, .junk, .junk, .junk, .junk, .junk, .junk, .junk, .junk, .junk, .junk, .junk, .junk, .junk, .junk, .junk, .junk, .junk, .junk, .junk]) (fun _ => [.live [vS n, vI q, .sl j1 (r.map refP) false, .sl j2 (s.map rowP) false, .sl j3 (c.map nodeP) false]]) (fun i => i ≤ r.length ∧ asc (preR r i) (r.drop i) = asc none r ∧ (0 < i → -1 ≤ (r.getD (i - 1) noRef).t)) (fun i => r.length - i) 0 ?_ ?_ ?_
 ·simp only [RG0, RG1, Nat.reduceAdd, ltL, PV.lt, Blk.lt, Nat.reduceLT, Nat.reduceLeDiff, Wk_rfl, ltL_vI, wk_sl]
 ·exact ⟨by omega, rfl, fun h => by omega⟩
 intro i hP
 have p1 := hP.1; have p2 := hP.2.1; have p3 := hP.2.2
 have hk1 : ((i : Int) - 1).toNat = i - 1 := by omega
 by_cases hi : i < r.length
 ·have hi' : (i : Int) < r.length := by omega
  have hgo := asc_go hi
  rw [p2] at hgo
  have hj2 : j1 = 2 := k1.resolve_right (by rintro rfl; simp at hi)
  subst hj2
  have hmem : r.getD i noRef ∈ r := by
   rw [List.getD_eq_getElem?_getD, List.getElem?_eq_getElem hi]; exact List.getElem_mem hi
  generalize hR : r.getD i noRef = x at *
  generalize hQ : r.getD (i - 1) noRef = y at *
  simp -implicitDefEqProofs (maxSteps := 2000000) only [R0, R1, R2, R3, R4, R5, R6, R7, R8, R9, R10, R11, R12, R13, R14, R15, R16, PV.strip, stripL, PV.noref, ri, feedL, feeds, Nat.reduceBEq, Array.toList, ↓reduceIte, forall_const, implies_true, Nat.reduceEqDiff, reduceCtorEq, alP, bxP, bsP, ifP, quiet, riD, bs_l, PV.isRef, plainCell, norefL, PV.scalar, scalarL, PV.cells, PV.solid, PV.one, PV.free, freeL, fillP, splice, Nat.reduceAdd, Nat.reduceMul, Nat.reduceSub, Nat.reduceLeDiff, Nat.reduceLT, Int.reduceToNat, Int.reduceEq, Int.reduceLT, Int.reduceLE, Int.reduceNeg, E0_vc, vaN, PV.avoid, avoidL, Nat.reduceGT, W18, D18, gd_ref, refP, List.length_map, Int.toNat_natCast, hi', hk1, hR, hQ, rBelowE', RB0]
  refine ⟨by omega, .inl (by decide), fun _ => z2.2 _ hmem, fun hb => by unfold inI64; omega, fun hb => by omega, fun hb => p3 (by omega), fun hb => ?_, fun a b => ⟨a, b⟩, fun hb => hne1 ?_, fun hb => ⟨by unfold inI64; omega, i + 1, ⟨by omega, ?_, fun _ => ?_⟩, by omega, ?_⟩⟩
  ·obtain ⟨h, _⟩ := hb
   simp only [Bool.or_eq_false_iff, decide_eq_false_iff_not] at h
   omega
  ·rw [hgo]
   rcases hb with (hb | hb) | hb
   ·have : refOk x = false := by
     unfold refOk
     rcases hb with hb | hb
     ·rw [decide_eq_false (show ¬ -1 ≤ x.t by omega)]; rfl
     ·rw [decide_eq_false (show ¬ x.t ≤ 9999 by omega)]; simp
    rw [this]; rfl
   ·have : refOk x = false := by unfold refOk; rw [hb]; simp
    rw [this]; rfl
   ·have hb2 : ¬ cmpRef y x < 0 := hb.2
    rw [if_neg (by omega), decide_eq_false hb2]; simp
  ·simp only [Bool.or_eq_false_iff, Bool.and_eq_false_iff, decide_eq_false_iff_not, Bool.not_eq_eq_eq_not, Bool.not_false, decide_eq_true_eq] at hb
   have hr : refOk x = true := by
    unfold refOk
    rw [decide_eq_true (show -1 ≤ x.t by omega), decide_eq_true (show x.t ≤ 9999 by omega), hb.1.2]; rfl
   rw [hgo, hr]
   by_cases h0 : i = 0
   ·rw [if_pos h0]; simp
   ·have hb3 : cmpRef y x < 0 := hb.2.resolve_left (fun h => h (by omega))
    rw [if_neg h0, decide_eq_true hb3]; simp
  ·simp only [Bool.or_eq_false_iff, decide_eq_false_iff_not] at hb
   rw [show i + 1 - 1 = i by omega, hR]; omega
  ·simp only [RG0, RG1, Nat.reduceAdd, ltL, PV.lt, Blk.lt, Nat.reduceLT, Nat.reduceLeDiff, Wk_rfl, ltL_vI, wk_sl] <;> omega
 have hi' : ¬ (i : Int) < r.length := by omega
 have hasc : asc none r = true := by
  rw [← p2, List.drop_eq_nil_of_le (by omega)]
  cases preR r i <;> rfl
 have hrefs : okRefs r = true := by unfold okRefs; rw [hasc, decide_eq_true (by omega)]; rfl
 simp -implicitDefEqProofs (maxSteps := 2000000) only [R0, R1, R2, R3, R4, R5, R6, R7, R8, R9, R10, R11, R12, R13, R14, R15, R16, PV.strip, stripL, PV.noref, ri, feedL, feeds, Nat.reduceBEq, Array.toList, ↓reduceIte, forall_const, implies_true, Nat.reduceEqDiff, reduceCtorEq, alP, bxP, bsP, ifP, quiet, riD, bs_l, PV.isRef, plainCell, norefL, PV.scalar, scalarL, PV.cells, PV.solid, PV.one, PV.free, freeL, fillP, splice, Nat.reduceAdd, Nat.reduceMul, Nat.reduceSub, Nat.reduceLeDiff, Nat.reduceLT, Int.reduceToNat, Int.reduceEq, Int.reduceLT, Int.reduceLE, Int.reduceNeg, E0_vc, vaN, PV.avoid, avoidL, Nat.reduceGT, W18, D18, List.length_map, hi', RB0]
 refine loopB_by (fun x : Nat × Int => [.junk, .ptr 0 0, .junk, .junk, .junk, vI x.2, vI x.1, .junk, .junk, .junk, .junk, .junk, .junk, .junk, .junk, .junk, .junk, .junk, .junk, .junk, .junk, .junk, .junk, .junk, .junk, .junk, .junk, .junk, .junk, .junk, .junk, .junk, .junk, .junk, .junk, .junk, .junk, .junk, .junk, .junk, .junk, .junk, .junk, .junk, .junk, .junk, .junk, .junk, .junk, .junk, .junk, .junk, .junk, .junk, .junk, .junk, .junk, .junk, .junk, .junk, .junk, .junk, .junk, .junk, .junk, .junk, .junk, .junk, .junk, .junk, .junk, .junk, .junk, .junk, .junk, .junk, .junk, .junk, .junk, .junk, .junk, .junk, .junk, .junk, .junk, .junk, .junk, .junk, .junk, .junk, .junk, .junk, .junk, .junk, .junk, .junk, .junk, .junk, .junk, .junk, .junk, .junk, .junk, .junk, .junk, .junk, .junk, .junk, .junk, .junk, .junk, .junk, .junk, .junk, .junk, .junk, .junk, .junk, .junk, .junk, .junk, .junk, .junk, .junk, .junk, .junk, .junk, .junk, .junk, .junk, .junk, .junk, .junk, .junk, .junk, .junk, .junk, .junk, .junk, .junk, .junk, .junk, .junk, .junk, .junk, .junk, .junk, .junk, .junk, .junk, .junk, .junk, .junk, .junk, .junk, .junk, .junk, .junk, .junk, .junk, .junk, .junk, .junk, .junk, .junk, .junk, .junk, .junk, .junk, .junk, .junk, .junk, .junk, .junk, .junk, .junk, .junk, .junk, .junk]) (fun _ => [.live [vS n, vI q, .sl j1 (r.map refP) false, .sl j2 (s.map rowP) false, .sl j3 (c.map nodeP) false]]) (fun x => x.1 ≤ s.length ∧ 0 ≤ x.2 ∧ x.2 ≤ 9223372036854775807 ∧ okRows r.length x.2 (preF s x.1) (s.drop x.1) = okRows r.length 9223372036854775807 none s) (fun x => s.length - x.1) (0, 9223372036854775807) ?_ ?_ ?_
 ·simp only [RG0, RG1, Nat.reduceAdd, ltL, PV.lt, Blk.lt, Nat.reduceLT, Nat.reduceLeDiff, Wk_rfl, ltL_vI, wk_sl]
 ·exact ⟨by simp only; omega, by simp only; omega, by simp only; omega, rfl⟩
 intro x hP
 obtain ⟨m, left⟩ := x
 have h1 : m ≤ s.length := hP.1
 have h2 : 0 ≤ left := hP.2.1
 have h4 : left ≤ 9223372036854775807 := hP.2.2.1
 have h3 := hP.2.2.2
 simp only at h3
 have hm1 : ((m : Int) - 1).toNat = m - 1 := by omega
 by_cases hm : m < s.length
 ·have hm' : (m : Int) < s.length := by omega
  have hgo := @okRows_go r.length left s m hm
  rw [h3] at hgo
  have hj2 : j2 = 50 := k2.resolve_right (by intro e; rw [e] at hm; simp at hm)
  subst hj2
  generalize hR : s.getD m noRow = x at *
  generalize hQ : s.getD (m - 1) noRow = y at *
  have hfin : ∀ b : Bool, ((if b = true then (0 : Int) else 4) = 0) = (b = true) := fun b => by cases b <;> simp
  simp -implicitDefEqProofs (maxSteps := 2000000) only [R0, R1, R2, R3, R4, R5, R6, R7, R8, R9, R10, R11, R12, R13, R14, R15, R16, PV.strip, stripL, PV.noref, ri, feedL, feeds, Nat.reduceBEq, Array.toList, ↓reduceIte, forall_const, implies_true, Nat.reduceEqDiff, reduceCtorEq, alP, bxP, bsP, ifP, quiet, riD, bs_l, PV.isRef, plainCell, norefL, PV.scalar, scalarL, PV.cells, PV.solid, PV.one, PV.free, freeL, fillP, splice, Nat.reduceAdd, Nat.reduceMul, Nat.reduceSub, Nat.reduceLeDiff, Nat.reduceLT, Int.reduceToNat, Int.reduceEq, Int.reduceLT, Int.reduceLE, Int.reduceNeg, E0_vc, vaN, PV.avoid, avoidL, Nat.reduceGT, W18, D18, gd_row, rowP, PV.cells, tk48, tk48a, len48, hl48, strip_vI, List.replicate_zero, List.append_nil, List.length_map, Int.toNat_natCast, hm', hm1, hR, hQ, hfin, List.drop_replicate, Nat.sub_self, RB0]
  refine ⟨by omega, .inl (by decide), fun hb => by unfold inI64; omega, fun hb => by omega, fun a b => ⟨a, b⟩, fun hb => hne2 ?_, fun hb => ?_⟩
  ·rw [hgo]
   rcases hb with (((hb | hb) | hb) | hb) | hb
   ·rw [decide_eq_false (show ¬ 1 ≤ x.c by omega)]; rfl
   ·rw [decide_eq_false (show ¬ x.c ≤ left by omega)]; simp
   ·rw [Bool.not_eq_true] at hb; rw [hb]; simp
   ·rw [decide_eq_false hb]; simp
   ·rw [if_neg (by omega), decide_eq_false (show ¬ cmpFin y.f x.f < 0 by omega)]; simp
  ·simp only [Bool.or_eq_false_iff, Bool.and_eq_false_iff, decide_eq_false_iff_not, Bool.not_eq_eq_eq_not, Bool.not_false, decide_eq_true_eq] at hb
   refine ⟨by unfold inI64; omega, by unfold inI64; omega, (m + 1, left - x.c), ⟨by simp only; omega, by simp only; omega, by simp only; omega, ?_⟩, by simp only; omega, ?_⟩
   ·simp only
    rw [hgo, decide_eq_true (show 1 ≤ x.c by omega), decide_eq_true (show x.c ≤ left by omega), hb.1.1.2, decide_eq_true hb.1.2]
    by_cases h0 : m = 0
    ·rw [if_pos h0]; simp
    ·rw [if_neg h0, decide_eq_true (show cmpFin y.f x.f < 0 by omega)]; simp
   ·simp only [RG0, RG1, Nat.reduceAdd, ltL, PV.lt, Blk.lt, Nat.reduceLT, Nat.reduceLeDiff, Wk_rfl, ltL_vI, wk_sl] <;> omega
 have hm' : ¬ (m : Int) < s.length := by omega
 have hrows : okRows r.length 9223372036854775807 none s = true := by
  rw [← h3, List.drop_eq_nil_of_le (by omega)]
  cases preF s m <;> rfl
 have hyes : okH ⟨n, q, r, s, c⟩ = (if s = [] then decide (r = []) else (refsD c []).all fun x => decide (x ∈ r)) := by
  unfold okH
  simp only [u1, hrefs, hrows, u5, decide_true, Bool.and_true, Bool.true_and]
  rw [decide_eq_true (show 1 ≤ q by omega), decide_eq_true (show q ≤ 3 by omega)]; rfl
 by_cases hs : s = []
 ·have hs0 : (s.length : Int) = 0 := by rw [hs]; rfl
  have hm0 : ¬ (m : Int) < 0 := by omega
  rw [if_pos hs] at hyes
  by_cases hr : r = []
  ·have hr0 : ¬ 0 < (r.length : Int) := by rw [hr]; simp
   have hok : checkH ⟨n, q, r, s, c⟩ = 0 := checkH_ok (by rw [hyes, hr]; rfl)
   simp -implicitDefEqProofs (maxSteps := 2000000) only [R0, R1, R2, R3, R4, R5, R6, R7, R8, R9, R10, R11, R12, R13, R14, R15, R16, PV.strip, stripL, PV.noref, ri, feedL, feeds, Nat.reduceBEq, Array.toList, ↓reduceIte, forall_const, implies_true, Nat.reduceEqDiff, reduceCtorEq, alP, bxP, bsP, ifP, quiet, riD, bs_l, PV.isRef, plainCell, norefL, PV.scalar, scalarL, PV.cells, PV.solid, PV.one, PV.free, freeL, fillP, splice, Nat.reduceAdd, Nat.reduceMul, Nat.reduceSub, Nat.reduceLeDiff, Nat.reduceLT, Int.reduceToNat, Int.reduceEq, Int.reduceLT, Int.reduceLE, Int.reduceNeg, E0_vc, vaN, PV.avoid, avoidL, Nat.reduceGT, W18, D18, List.length_map, hm0, hs0, hr0, hok, RB0]
  ·have hr0 : 0 < (r.length : Int) := by
    have := List.length_pos_iff.2 hr
    omega
   have hok : checkH ⟨n, q, r, s, c⟩ = 300 := checkH_no (by rw [hyes, decide_eq_false hr])
   simp -implicitDefEqProofs (maxSteps := 2000000) only [R0, R1, R2, R3, R4, R5, R6, R7, R8, R9, R10, R11, R12, R13, R14, R15, R16, PV.strip, stripL, PV.noref, ri, feedL, feeds, Nat.reduceBEq, Array.toList, ↓reduceIte, forall_const, implies_true, Nat.reduceEqDiff, reduceCtorEq, alP, bxP, bsP, ifP, quiet, riD, bs_l, PV.isRef, plainCell, norefL, PV.scalar, scalarL, PV.cells, PV.solid, PV.one, PV.free, freeL, fillP, splice, Nat.reduceAdd, Nat.reduceMul, Nat.reduceSub, Nat.reduceLeDiff, Nat.reduceLT, Int.reduceToNat, Int.reduceEq, Int.reduceLT, Int.reduceLE, Int.reduceNeg, E0_vc, vaN, PV.avoid, avoidL, Nat.reduceGT, W18, D18, List.length_map, hm0, hs0, hr0, hok, RB0]
 rw [if_neg hs] at hyes
 have hs0 : ¬ (s.length : Int) = 0 := by
  have := List.length_pos_iff.2 hs
  omega
 obtain ⟨ja, hA, hja⟩ := ansR_eq (refsD c [])
 have hdl := refsD_len c []
 simp only [List.length_nil, Nat.add_zero] at hdl
 simp -implicitDefEqProofs (maxSteps := 2000000) only [R0, R1, R2, R3, R4, R5, R6, R7, R8, R9, R10, R11, R12, R13, R14, R15, R16, PV.strip, stripL, PV.noref, ri, feedL, feeds, Nat.reduceBEq, Array.toList, ↓reduceIte, forall_const, implies_true, Nat.reduceEqDiff, reduceCtorEq, alP, bxP, bsP, ifP, quiet, riD, bs_l, PV.isRef, plainCell, norefL, PV.scalar, scalarL, PV.cells, PV.solid, PV.one, PV.free, freeL, fillP, splice, Nat.reduceAdd, Nat.reduceMul, Nat.reduceSub, Nat.reduceLeDiff, Nat.reduceLT, Int.reduceToNat, Int.reduceEq, Int.reduceLT, Int.reduceLE, Int.reduceNeg, E0_vc, vaN, PV.avoid, avoidL, Nat.reduceGT, W18, D18, List.length_map, hm', hs0, e3, u5, hA, RB0]
 refine ⟨z4, ?_⟩
 refine loopB_by (fun i : Nat => [.junk, .ptr 0 0, .junk, .junk, .junk, .junk, .junk, .junk, .sl ja ((refsD c []).map refP) false, .junk, vI i, .junk, .junk, .junk, .junk, .junk, .junk, .junk, .junk, .junk, .junk, .junk, .junk, .junk, .junk, .junk, .junk, .junk, .junk, .junk, .junk, .junk, .junk, .junk, .junk, .junk, .junk, .junk, .junk, .junk, .junk, .junk, .junk, .junk, .junk, .junk, .junk, .junk, .junk, .junk, .junk, .junk, .junk, .junk, .junk, .junk, .junk, .junk, .junk, .junk, .junk, .junk, .junk, .junk, .junk, .junk, .junk, .junk, .junk, .junk, .junk, .junk, .junk, .junk, .junk, .junk, .junk, .junk, .junk, .junk, .junk, .junk, .junk, .junk, .junk, .junk, .junk, .junk, .junk, .junk, .junk, .junk, .junk, .junk, .junk, .junk, .junk, .junk, .junk, .junk, .junk, .junk, .junk, .junk, .junk, .junk, .junk, .junk, .junk, .junk, .junk, .junk, .junk, .junk, .junk, .junk, .junk, .junk, .junk, .junk, .junk, .junk, .junk, .junk, .junk, .junk, .junk, .junk, .junk, .junk, .junk, .junk, .junk, .junk, .junk, .junk, .junk, .junk, .junk, .junk, .junk, .junk, .junk, .junk, .junk, .junk, .junk, .junk, .junk, .junk, .junk, .junk, .junk, .junk, .junk, .junk, .junk, .junk, .junk, .junk, .junk, .junk, .junk, .junk, .junk, .junk, .junk, .junk, .junk, .junk, .junk, .junk, .junk, .junk, .junk, .junk, .junk, .junk, .junk]) (fun _ => [.live [vS n, vI q, .sl j1 (r.map refP) false, .sl j2 (s.map rowP) false, .sl j3 (c.map nodeP) false]]) (fun i => i ≤ (refsD c []).length ∧ ∀ j, j < i → (refsD c []).getD j noRef ∈ r) (fun i => (refsD c []).length - i) 0 ?_ ?_ ?_
 ·simp only [RG0, RG1, Nat.reduceAdd, ltL, PV.lt, Blk.lt, Nat.reduceLT, Nat.reduceLeDiff, Wk_rfl, ltL_vI, wk_sl]
 ·exact ⟨by omega, fun j h => by omega⟩
 intro i hP
 have p1 := hP.1; have p2 := hP.2
 by_cases hi : i < (refsD c []).length
 case neg =>
  have hi' : ¬ (i : Int) < (refsD c []).length := by omega
  have hok : checkH ⟨n, q, r, s, c⟩ = 0 := by
   rw [checkH_ok]
   rw [hyes, List.all_eq_true]
   intro x hx
   obtain ⟨j, hj, rfl⟩ := List.mem_iff_getElem.1 hx
   have := p2 j (by omega)
   rw [List.getD_eq_getElem?_getD, List.getElem?_eq_getElem hj] at this
   exact decide_eq_true this
  simp -implicitDefEqProofs (maxSteps := 2000000) only [R0, R1, R2, R3, R4, R5, R6, R7, R8, R9, R10, R11, R12, R13, R14, R15, R16, PV.strip, stripL, PV.noref, ri, feedL, feeds, Nat.reduceBEq, Array.toList, ↓reduceIte, forall_const, implies_true, Nat.reduceEqDiff, reduceCtorEq, alP, bxP, bsP, ifP, quiet, riD, bs_l, PV.isRef, plainCell, norefL, PV.scalar, scalarL, PV.cells, PV.solid, PV.one, PV.free, freeL, fillP, splice, Nat.reduceAdd, Nat.reduceMul, Nat.reduceSub, Nat.reduceLeDiff, Nat.reduceLT, Int.reduceToNat, Int.reduceEq, Int.reduceLT, Int.reduceLE, Int.reduceNeg, E0_vc, vaN, PV.avoid, avoidL, Nat.reduceGT, W18, D18, List.length_map, hi', hok, RB0]
 have hi' : (i : Int) < (refsD c []).length := by omega
 have hja2 : ja = 2 := hja.resolve_right (by intro e; rw [e] at hi; simp at hi)
 subst hja2
 simp -implicitDefEqProofs (maxSteps := 2000000) only [R0, R1, R2, R3, R4, R5, R6, R7, R8, R9, R10, R11, R12, R13, R14, R15, R16, PV.strip, stripL, PV.noref, ri, feedL, feeds, Nat.reduceBEq, Array.toList, ↓reduceIte, forall_const, implies_true, Nat.reduceEqDiff, reduceCtorEq, alP, bxP, bsP, ifP, quiet, riD, bs_l, PV.isRef, plainCell, norefL, PV.scalar, scalarL, PV.cells, PV.solid, PV.one, PV.free, freeL, fillP, splice, Nat.reduceAdd, Nat.reduceMul, Nat.reduceSub, Nat.reduceLeDiff, Nat.reduceLT, Int.reduceToNat, Int.reduceEq, Int.reduceLT, Int.reduceLE, Int.reduceNeg, E0_vc, vaN, PV.avoid, avoidL, Nat.reduceGT, W18, D18, List.length_map, hi', RB0]
 generalize hR : (refsD c []).getD i noRef = a at *
 refine loopB_by (fun x : Nat × Bool => [.junk, .ptr 0 0, .junk, .junk, .junk, .junk, .junk, .junk, .sl 2 ((refsD c []).map refP) false, .junk, vI i, vT x.2, vI x.1, .junk, .junk, .junk, .junk, .junk, .junk, .junk, .junk, .junk, .junk, .junk, .junk, .junk, .junk, .junk, .junk, .junk, .junk, .junk, .junk, .junk, .junk, .junk, .junk, .junk, .junk, .junk, .junk, .junk, .junk, .junk, .junk, .junk, .junk, .junk, .junk, .junk, .junk, .junk, .junk, .junk, .junk, .junk, .junk, .junk, .junk, .junk, .junk, .junk, .junk, .junk, .junk, .junk, .junk, .junk, .junk, .junk, .junk, .junk, .junk, .junk, .junk, .junk, .junk, .junk, .junk, .junk, .junk, .junk, .junk, .junk, .junk, .junk, .junk, .junk, .junk, .junk, .junk, .junk, .junk, .junk, .junk, .junk, .junk, .junk, .junk, .junk, .junk, .junk, .junk, .junk, .junk, .junk, .junk, .junk, .junk, .junk, .junk, .junk, .junk, .junk, .junk, .junk, .junk, .junk, .junk, .junk, .junk, .junk, .junk, .junk, .junk, .junk, .junk, .junk, .junk, .junk, .junk, .junk, .junk, .junk, .junk, .junk, .junk, .junk, .junk, .junk, .junk, .junk, .junk, .junk, .junk, .junk, .junk, .junk, .junk, .junk, .junk, .junk, .junk, .junk, .junk, .junk, .junk, .junk, .junk, .junk, .junk, .junk, .junk, .junk, .junk, .junk, .junk, .junk, .junk, .junk, .junk, .junk, .junk, .junk, .junk, .junk, .junk, .junk, .junk]) (fun _ => [.live [vS n, vI q, .sl j1 (r.map refP) false, .sl j2 (s.map rowP) false, .sl j3 (c.map nodeP) false]]) (fun x => x.1 ≤ r.length ∧ x.2 = decide (a ∈ r.take x.1)) (fun x => r.length - x.1) (0, false) ?_ ?_ ?_
 ·simp only [RG0, RG1, Nat.reduceAdd, ltL, PV.lt, Blk.lt, Nat.reduceLT, Nat.reduceLeDiff, Wk_rfl, ltL_vI, wk_sl]
 ·exact ⟨by simp only; omega, by simp⟩
 intro x hP
 obtain ⟨k, b⟩ := x
 have q1 : k ≤ r.length := hP.1
 have q2 : b = decide (a ∈ r.take k) := hP.2
 by_cases hk : k < r.length
 ·have hk' : (k : Int) < r.length := by omega
  have hj2 : j1 = 2 := k1.resolve_right (by intro e; rw [e] at hk; simp at hk)
  subst hj2
  simp -implicitDefEqProofs (maxSteps := 2000000) only [R0, R1, R2, R3, R4, R5, R6, R7, R8, R9, R10, R11, R12, R13, R14, R15, R16, PV.strip, stripL, PV.noref, ri, feedL, feeds, Nat.reduceBEq, Array.toList, ↓reduceIte, forall_const, implies_true, Nat.reduceEqDiff, reduceCtorEq, alP, bxP, bsP, ifP, quiet, riD, bs_l, PV.isRef, plainCell, norefL, PV.scalar, scalarL, PV.cells, PV.solid, PV.one, PV.free, freeL, fillP, splice, Nat.reduceAdd, Nat.reduceMul, Nat.reduceSub, Nat.reduceLeDiff, Nat.reduceLT, Int.reduceToNat, Int.reduceEq, Int.reduceLT, Int.reduceLE, Int.reduceNeg, E0_vc, vaN, PV.avoid, avoidL, Nat.reduceGT, W18, D18, gd_ref, refP, List.length_map, Int.toNat_natCast, hk', hR, RB0]
  have hnn : r[k] = r.getD k noRef := by rw [List.getD_eq_getElem?_getD, List.getElem?_eq_getElem hk]; rfl
  refine ⟨.inl (by decide), fun _ => by omega, fun _ => by omega, by unfold inI64; omega, (k + 1, b || decide ((⟨(r.getD k noRef).t, (r.getD k noRef).n⟩ : Ref) = ⟨a.t, a.n⟩)), ⟨by simp only; omega, ?_⟩, by simp only; omega, ?_⟩
  ·simp only
   rw [q2, List.take_succ, List.getElem?_eq_getElem hk, ← hnn, ← Bool.decide_or]
   refine decide_eq_decide.2 ?_
   simp only [Option.toList_some, List.mem_append, List.mem_singleton]
   exact or_congr Iff.rfl ⟨fun h => h.symm, fun h => h.symm⟩
  ·simp only [RG0, RG1, Nat.reduceAdd, ltL, PV.lt, Blk.lt, Nat.reduceLT, Nat.reduceLeDiff, Wk_rfl, ltL_vI, wk_sl] <;> omega
 ·have hk' : ¬ (k : Int) < r.length := by omega
  simp -implicitDefEqProofs (maxSteps := 2000000) only [R0, R1, R2, R3, R4, R5, R6, R7, R8, R9, R10, R11, R12, R13, R14, R15, R16, PV.strip, stripL, PV.noref, ri, feedL, feeds, Nat.reduceBEq, Array.toList, ↓reduceIte, forall_const, implies_true, Nat.reduceEqDiff, reduceCtorEq, alP, bxP, bsP, ifP, quiet, riD, bs_l, PV.isRef, plainCell, norefL, PV.scalar, scalarL, PV.cells, PV.solid, PV.one, PV.free, freeL, fillP, splice, Nat.reduceAdd, Nat.reduceMul, Nat.reduceSub, Nat.reduceLeDiff, Nat.reduceLT, Int.reduceToNat, Int.reduceEq, Int.reduceLT, Int.reduceLE, Int.reduceNeg, E0_vc, vaN, PV.avoid, avoidL, Nat.reduceGT, W18, D18, List.length_map, hk', RB0]
  have hb2 : b = decide (a ∈ r) := by rw [q2, List.take_of_length_le (by omega)]
  refine ⟨fun hb => ?_, fun hb => ⟨by unfold inI64; omega, i + 1, ⟨by omega, fun j hj => ?_⟩, by omega, ?_⟩⟩
  ·rw [checkH_no]
   rw [hyes]
   apply Bool.eq_false_iff.2
   intro hall
   have := List.all_eq_true.1 hall a (by
    rw [← hR, List.getD_eq_getElem?_getD, List.getElem?_eq_getElem hi]; exact List.getElem_mem _)
   rw [hb] at hb2
   rw [← hb2] at this; cases this
  ·by_cases e : j = i
   ·subst e; rw [hR]; rw [hb] at hb2; exact of_decide_eq_true hb2.symm
   ·exact p2 j (by omega)
  ·simp only [RG0, RG1, Nat.reduceAdd, ltL, PV.lt, Blk.lt, Nat.reduceLT, Nat.reduceLeDiff, Wk_rfl, ltL_vI, wk_sl] <;> omega
end Go.Ve.H
end
section
set_option maxRecDepth 10000
set_option maxHeartbeats 20000000
namespace Go.Ve.H
open Go Go.Proofs Go.Ve
theorem rHCheckE {n : ByteArray} {q : Int} {r : List Ref} {s : List Row} {c : List Node} {j1 j2 j3 : Nat} {o1 o2 o3 : Bool} (h1 : j1 = 2 ∨ r = []) (h2 : j2 = 50 ∨ s = []) (h3 : j3 = 6 ∨ c = []) :
  rHCheckF [.agg [vS n, vI q, .sl j1 (r.map refP) o1, .sl j2 (s.map rowP) o2, .sl j3 (c.map nodeP) o3]] = some ([szH ⟨n, q, r, s, c⟩], vI (checkH ⟨n, q, r, s, c⟩)) := ckhE h1 h2 h3
theorem pHCheckE {n : ByteArray} {q : Int} {r : List Ref} {s : List Row} {c : List Node} {j1 j2 j3 : Nat} {o1 o2 o3 : Bool} (h1 : j1 = 2 ∨ r = []) (h2 : j2 = 50 ∨ s = []) (h3 : j3 = 6 ∨ c = []) :
  pHCheckF [.agg [vS n, vI q, .sl j1 (r.map refP) o1, .sl j2 (s.map rowP) o2, .sl j3 (c.map nodeP) o3]] = some ([szH ⟨n, q, r, s, c⟩], vI (checkH ⟨n, q, r, s, c⟩)) := ckhE h1 h2 h3
def noHist : Hist := ⟨{ data := #[] }, 0, [], [], []⟩
def noHP : PV := .agg [.val (.string { data := #[] }), vI 0, .sl 0 [] false, .sl 0 [] false, .sl 0 [] false]
def addH (a b : Hist) : Hist × Int :=
 if okH a = false ∨ okH b = false then (noHist, 300)
 else if (a.name ≠ b.name ∨ a.quant ≠ b.quant ∨ a.cond ≠ b.cond) ∨ (a.rows ≠ [] ∧ b.rows ≠ [] ∧ a.refs ≠ b.refs) then (noHist, 80)
 else if 9223372036854775807 < total a.rows + total b.rows then (noHist, 41)
 else (⟨a.name, a.quant, if a.rows = [] then b.refs else a.refs, mrgR a.rows b.rows, a.cond⟩, 0)
def refsV : PV → PV
 | .agg [_, _, r, _, _] => r.strip
 | p => p
def condV : PV → PV
 | .agg [_, _, _, _, c] => c.strip
 | p => p
def rowsV (l : List Row) : PV := if l = [] then .sl 0 [] false else .sl 50 (l.map rowP) false
def rAnsV (p q : PV) (a b : Hist) : PV := .tuple (if (addH a b).2 = 0 then [.agg [vS a.name, vI a.quant, if b.rows = [] then (if a.rows = [] then .sl 0 [] false else refsV p) else refsV q, rowsV (mrgR a.rows b.rows), condV p], vI 0] else [noHP, vI (addH a b).2])
def rAddF : List PV → Option (List Prop × PV)
 | [p, q] => match histD p, histD q with
  | some a, some b => some ([szH a, szH b, (a.rows ++ b.rows).length ≤ 100000], rAnsV p q a b)
  | _, _ => none
 | _ => none
theorem rAddF_inv {args : List PV} {x : List Prop × PV} (h : rAddF args = some x) : ∃ p q a b, args = [p, q] ∧ IsH p a ∧ IsH q b ∧ x = ([szH a, szH b, (a.rows ++ b.rows).length ≤ 100000], rAnsV p q a b) := by
 unfold rAddF at h
 split at h
 ·split at h
  ·rename_i h1 h2
   injection h with h
   exact ⟨_, _, _, _, rfl, histD_inv h1, histD_inv h2, h.symm⟩
  ·cases h
 ·cases h
theorem posW_of {n : Int} : ∀ {l : List Row} {left : Int} {p : Option Fin}, okRows n left p l = true → 0 ≤ left → posW l ∧ total l ≤ left
 | [], left, p, _, h => ⟨fun r hr => by simp at hr, h⟩
 | r :: l, left, p, h, h0 => by
  rw [okRows_cons] at h
  simp only [Bool.and_eq_true, decide_eq_true_eq] at h
  obtain ⟨i1, i2⟩ := posW_of h.2 (by omega)
  refine ⟨fun x hx => ?_, ?_⟩
  ·rcases List.mem_cons.1 hx with rfl | hx
   ·exact h.1.1.1.1.1
   ·exact i1 x hx
  ·show r.c + total l ≤ left
   omega
theorem total_app : ∀ a b : List Row, total (a ++ b) = total a + total b
 | [], b => by simp [total]
 | r :: a, b => by rw [List.cons_append, total, total, total_app a b]; omega
theorem posW_take {l : List Row} (h : posW l) (i : Nat) : posW (l.take i) := fun r hr => h r (List.mem_of_mem_take hr)
theorem total_take {l : List Row} {i : Nat} (h : i < l.length) : total (l.take (i + 1)) = total (l.take i) + (l.getD i noRow).c := by
 rw [List.take_succ, List.getElem?_eq_getElem h, total_app, List.getD_eq_getElem?_getD, List.getElem?_eq_getElem h]
 simp [total]
theorem total_take_le {l : List Row} (h : posW l) (i : Nat) : total (l.take i) ≤ total l := by
 have h1 : total l = total (l.take i) + total (l.drop i) := by rw [← total_app, List.take_append_drop]
 have h2 : 0 ≤ total (l.drop i) := total_nn fun r hr => h r (List.mem_of_mem_drop hr)
 omega
theorem rowsV_eq (l : List Row) : ∃ j, rowsV l = .sl j (l.map rowP) false ∧ (j = 50 ∨ l = []) := by
 unfold rowsV
 by_cases h : l = []
 ·exact ⟨0, by rw [if_pos h, h]; rfl, .inr h⟩
 ·exact ⟨50, by rw [if_neg h], .inl rfl⟩
theorem rowsV_0 : rowsV [] = .sl 0 [] false := rfl
theorem rowsV_ne {l : List Row} (h : ¬ l = []) : rowsV l = .sl 50 (l.map rowP) false := by rw [rowsV, if_neg h]
theorem putK_all : ∀ {l : List Row} {x : Row}, (∀ r ∈ l, cmpFin r.f x.f < 0) → putK l x = l.length
 | [], x, _ => rfl
 | r :: l, x, h => by
  unfold putK
  rw [if_pos (h r (by simp)), putK_all (fun z hz => h z (by simp [hz])), List.length_cons]
theorem putK_take {l : List Row} (h : ascW l) {i : Nat} (hi : i < l.length) : putK (l.take i) (l.getD i noRow) = (l.take i).length := by
 refine putK_all fun r hr => ?_
 have hn : l[i] = l.getD i noRow := by rw [List.getD_eq_getElem?_getD, List.getElem?_eq_getElem hi]; rfl
 have h2 : ascW (l.take i ++ l.drop i) := by rw [List.take_append_drop]; exact h
 rw [List.drop_eq_getElem_cons hi, hn] at h2
 exact (List.pairwise_append.1 h2).2.2 r hr _ (by simp)
theorem put_take {l : List Row} (h : ascW l) {i : Nat} (hi : i < l.length) : putL (l.take i) (l.getD i noRow) = l.take (i + 1) := by
 have hk := putK_take h hi
 unfold putL
 rw [hk, if_neg (fun e => Nat.lt_irrefl _ e.1), List.take_length, List.drop_length, List.take_succ, List.getElem?_eq_getElem hi, List.getD_eq_getElem?_getD, List.getElem?_eq_getElem hi]; rfl
theorem ascW_take {l : List Row} (h : ascW l) (i : Nat) : ascW (l.take i) := h.sublist (List.take_sublist i l)
theorem put_mrg {a l : List Row} (h : ascW l) {i : Nat} (hi : i < l.length) : putL (mrgR a (l.take i)) (l.getD i noRow) = mrgR a (l.take (i + 1)) := by
 rw [← puts_mrg (l.take i) a (ascW_take h i), ← puts_mrg (l.take (i + 1)) a (ascW_take h (i + 1)), List.take_succ, List.getElem?_eq_getElem hi, List.getD_eq_getElem?_getD, List.getElem?_eq_getElem hi, List.foldl_append]; rfl
theorem putL_law : ∀ (l : List Row) (x : Row), total (putL l x) = total l + x.c ∧ (putL l x).length ≤ l.length + 1 ∧ (posW l → 1 ≤ x.c → posW (putL l x)) ∧ ¬ putL l x = []
 | [], x => by
  rw [putL_nil]
  exact ⟨by simp [total], by simp, fun _ h r hr => by rw [List.mem_singleton.1 hr]; exact h, by simp⟩
 | r :: l, x => by
  obtain ⟨i1, i2, i3, _⟩ := putL_law l x
  rw [putL_cons]
  split
  ·refine ⟨by simp only [total, i1]; omega, by simp only [List.length_cons]; omega, fun h1 h2 z hz => ?_, by simp⟩
   rcases List.mem_cons.1 hz with rfl | hz
   ·exact h1 _ (by simp)
   ·exact i3 (fun w hw => h1 w (by simp [hw])) h2 z hz
  ·split
   ·refine ⟨by simp only [total]; omega, by simp, fun h1 h2 z hz => ?_, by simp⟩
    rcases List.mem_cons.1 hz with rfl | hz
    ·have := h1 r (by simp); simp only; omega
    ·exact h1 z (by simp [hz])
   ·refine ⟨by simp only [total]; omega, by simp, fun h1 h2 z hz => ?_, by simp⟩
    rcases List.mem_cons.1 hz with rfl | hz
    ·exact h2
    ·exact h1 z hz
theorem puts_law : ∀ (ys xs : List Row), posW xs → posW ys → total (ys.foldl putL xs) = total xs + total ys ∧ (ys.foldl putL xs).length ≤ xs.length + ys.length ∧ posW (ys.foldl putL xs)
 | [], xs, h, _ => ⟨by simp [total], by simp, h⟩
 | y :: ys, xs, h, h' => by
  obtain ⟨i1, i2, i3, _⟩ := putL_law xs y
  obtain ⟨k1, k2, k3⟩ := puts_law ys (putL xs y) (i3 h (h' y (by simp))) (fun z hz => h' z (by simp [hz]))
  rw [List.foldl_cons]
  exact ⟨by rw [k1, i1, total]; omega, by rw [List.length_cons]; omega, k3⟩
theorem getD_le_total : ∀ {l : List Row} {k : Nat}, posW l → k < l.length → (l.getD k noRow).c ≤ total l
 | r :: l, 0, h, _ => by
  have := total_nn (l := l) (fun z hz => h z (by simp [hz]))
  show r.c ≤ r.c + total l
  omega
 | r :: l, k + 1, h, hk => by
  have h1 := h r (by simp)
  have := getD_le_total (l := l) (k := k) (fun z hz => h z (by simp [hz])) (by simpa using hk)
  show (l.getD k noRow).c ≤ r.c + total l
  omega
theorem mrg_ask {a l : List Row} (pa : posW a) (pl : posW l) (h : ascW l) {i : Nat} (hi : i < l.length) (hs : total a + total l ≤ 9223372036854775807) (hl : (a.length : Int) + l.length ≤ 100000) :
  (mrgR a (l.take i)).length ≤ 100000 ∧ ∀ k, k < (mrgR a (l.take i)).length → inI64 (((mrgR a (l.take i)).getD k noRow).c + (l.getD i noRow).c) := by
 obtain ⟨k1, k2, k3⟩ := puts_law (l.take i) a pa (posW_take pl i)
 rw [puts_mrg (l.take i) a (ascW_take h i)] at k1 k2 k3
 rw [List.length_take] at k2
 refine ⟨by omega, fun k hk => ?_⟩
 have g := getD_le_total k3 hk
 have g2 := k3 ((mrgR a (l.take i)).getD k noRow) (by rw [List.getD_eq_getElem?_getD, List.getElem?_eq_getElem hk]; exact List.getElem_mem hk)
 have g3 := total_take hi
 have g4 := total_take_le pl (i + 1)
 have g5 := pl (l.getD i noRow) (by rw [List.getD_eq_getElem?_getD, List.getElem?_eq_getElem hi]; exact List.getElem_mem hi)
 unfold inI64; omega
theorem okH_rows {h : Hist} (e : okH h = true) : okRows h.refs.length 9223372036854775807 none h.rows = true := by
 unfold okH at e
 simp only [Bool.and_eq_true] at e
 exact e.1.1.2
def D7 : FuncId → Option CB
 | 18 => some (.fn rHCheckF)
 | 19 => some (.fn rSameCF)
 | 20 => some (.fn rSameRF)
 | 21 => some (.fn putF)
 | _ => none
theorem D7_ok : AllB E0 D7 := fun g c h => by
 unfold D7 at h
 split at h <;> simp at h <;> subst h
 ·exact rHCheck_ok
 ·exact rSameC_ok
 ·exact rSameR_ok
 ·exact put_ok
def W7 := And.intro @Try.results7 (And.intro @ld27 (And.intro @zp27 (And.intro @ag27 (And.intro @sz27 (And.intro @bu27 (And.intro @fa27_0 (And.intro @ag9 (And.intro @sz9 (And.intro @zd9 (And.intro @fa27_1 (And.intro @ag3 (And.intro @sz3 (And.intro @zd3 (And.intro @fa27_4 (And.intro @ag25 (And.intro @sz25 (And.intro @zd25 (And.intro @fa27_3 (And.intro @ag23 (And.intro @sz23 (And.intro @zd23 (And.intro @Try.underlying23 (And.intro @fa27_2 (And.intro @ag22 (And.intro @sz22 (And.intro @zd22 (And.intro @sz44 (And.intro @zd44 (And.intro @fa44_0 (And.intro @ag2 (And.intro @sz2 (And.intro @zd2 (And.intro @ag44 (And.intro @rHCheckE (And.intro @rSameCE (And.intro @rSameRE (@putE)))))))))))))))))))))))))))))))))))))
theorem rAdd_ok : Sound Try.prog G0 7 (conT (CB.fn rAddF).toCon) := by
 refine fn_of D7_ok mixed true Try.func7 (by decide) rfl _ ?_
 intro args ps r hq hp
 obtain ⟨p, q, a, b, rfl, ha, hb, hx⟩ := rAddF_inv hq
 obtain ⟨rfl, rfl⟩ := Prod.mk.inj hx
 have za := hp (szH a) (by simp)
 have zb := hp (szH b) (by simp)
 have zl := hp ((a.rows ++ b.rows).length ≤ 100000) (by simp)
 refine ⟨by simp only [norefL, nr_hist ha, nr_hist hb, Bool.and_self], ?_⟩
 simp only [awpBFn, Try.ntmps7, List.length_cons, List.length_nil, Nat.reduceAdd, Nat.reduceSub, List.replicate_succ, List.replicate_zero, List.cons_append, List.nil_append, List.map_cons, List.map_nil]
 obtain ⟨j1, o1, j2, o2, j3, o3, rfl, k1, k2, k3⟩ := ha
 obtain ⟨i1, a1, i2, a2, i3, a3, rfl, m1, m2, m3⟩ := hb
 have e1 := fun x y z => rHCheckE (n := a.name) (q := a.quant) (o1 := x) (o2 := y) (o3 := z) k1 k2 k3
 have e2 := fun x y z => rHCheckE (n := b.name) (q := b.quant) (o1 := x) (o2 := y) (o3 := z) m1 m2 m3
 have hno : ∀ e : Int, e ≠ 0 → (addH a b).2 = e → rAnsV (.agg [vS a.name, vI a.quant, .sl j1 (a.refs.map refP) o1, .sl j2 (a.rows.map rowP) o2, .sl j3 (a.cond.map nodeP) o3]) (.agg [vS b.name, vI b.quant, .sl i1 (b.refs.map refP) a1, .sl i2 (b.rows.map rowP) a2, .sl i3 (b.cond.map nodeP) a3]) a b = .tuple [noHP, vI e] := fun e he h => by
  unfold rAnsV; rw [h, if_neg he]
 have hll := fun (A B : Blk) (cs : List PV) => @ld_live Try.prog 27 [A, B, .live cs] 2 0 cs rfl
 have hll4 := fun (A B D : Blk) (cs : List PV) => @ld_live Try.prog 27 [A, B, .live cs, D] 2 0 cs rfl
 by_cases c1 : okH a = true
 case neg =>
  have c1' : checkH a = 300 := checkH_no (by simpa using c1)
  have hans := hno 300 (by decide) (by unfold addH; rw [if_pos (.inl (by simpa using c1))])
  simp -implicitDefEqProofs (maxSteps := 2000000) only [R0, R1, R2, R3, R4, R5, R6, R7, R8, R9, R10, R11, R12, R13, R14, R15, R16, PV.strip, stripL, PV.noref, ri, feedL, feeds, Nat.reduceBEq, Array.toList, ↓reduceIte, forall_const, implies_true, Nat.reduceEqDiff, reduceCtorEq, alP, bxP, bsP, ifP, quiet, riD, bs_l, PV.isRef, plainCell, norefL, PV.scalar, scalarL, PV.cells, PV.solid, PV.one, PV.free, freeL, fillP, splice, Nat.reduceAdd, Nat.reduceMul, Nat.reduceSub, Nat.reduceLeDiff, Nat.reduceLT, Int.reduceToNat, Int.reduceEq, Int.reduceLT, Int.reduceLE, Int.reduceNeg, E0_vc, vaN, PV.avoid, avoidL, Nat.reduceGT, W7, D7, List.length_map, e1, e2, c1', hans, rb2, rc_s, lq_t, lq_f, hll, RB0]
  exact ⟨za, rfl, rfl⟩
 have c1' : checkH a = 0 := checkH_ok c1
 by_cases c2 : okH b = true
 case neg =>
  have c2' : checkH b = 300 := checkH_no (by simpa using c2)
  have hans := hno 300 (by decide) (by unfold addH; rw [if_pos (.inr (by simpa using c2))])
  simp -implicitDefEqProofs (maxSteps := 2000000) only [R0, R1, R2, R3, R4, R5, R6, R7, R8, R9, R10, R11, R12, R13, R14, R15, R16, PV.strip, stripL, PV.noref, ri, feedL, feeds, Nat.reduceBEq, Array.toList, ↓reduceIte, forall_const, implies_true, Nat.reduceEqDiff, reduceCtorEq, alP, bxP, bsP, ifP, quiet, riD, bs_l, PV.isRef, plainCell, norefL, PV.scalar, scalarL, PV.cells, PV.solid, PV.one, PV.free, freeL, fillP, splice, Nat.reduceAdd, Nat.reduceMul, Nat.reduceSub, Nat.reduceLeDiff, Nat.reduceLT, Int.reduceToNat, Int.reduceEq, Int.reduceLT, Int.reduceLE, Int.reduceNeg, E0_vc, vaN, PV.avoid, avoidL, Nat.reduceGT, W7, D7, List.length_map, e1, e2, c1', c2', hans, rb2, rc_s, lq_t, lq_f, hll, RB0]
  exact ⟨za, zb, rfl, rfl⟩
 have c2' : checkH b = 0 := checkH_ok c2
 have hcc := fun x y => rSameCE (o := x) (o' := y) k3 m3
 have hrr := fun x y => rSameRE (o := x) (o' := y) k1 m1
 obtain ⟨pa, ta⟩ := posW_of (okH_rows c1) (by omega)
 obtain ⟨pb, tb⟩ := posW_of (okH_rows c2) (by omega)
 have zal : (a.rows.length : Int) ≤ 100000 := by rw [List.length_append] at zl; omega
 have zbl : (b.rows.length : Int) ≤ 100000 := by rw [List.length_append] at zl; omega
 have zab : (a.rows.length : Int) + b.rows.length ≤ 100000 := by rw [List.length_append] at zl; omega
 simp -implicitDefEqProofs (maxSteps := 2000000) only [R0, R1, R2, R3, R4, R5, R6, R7, R8, R9, R10, R11, R12, R13, R14, R15, R16, PV.strip, stripL, PV.noref, ri, feedL, feeds, Nat.reduceBEq, Array.toList, ↓reduceIte, forall_const, implies_true, Nat.reduceEqDiff, reduceCtorEq, alP, bxP, bsP, ifP, quiet, riD, bs_l, PV.isRef, plainCell, norefL, PV.scalar, scalarL, PV.cells, PV.solid, PV.one, PV.free, freeL, fillP, splice, Nat.reduceAdd, Nat.reduceMul, Nat.reduceSub, Nat.reduceLeDiff, Nat.reduceLT, Int.reduceToNat, Int.reduceEq, Int.reduceLT, Int.reduceLE, Int.reduceNeg, E0_vc, vaN, PV.avoid, avoidL, Nat.reduceGT, W7, D7, List.length_map, e1, e2, c1', c2', hcc, hrr, rb2, rc_s, lq_t, lq_f, hll, RB0]
 refine ⟨za, zb, fun _ => za.2.2.2.1, fun u v => ⟨u, v⟩, fun _ => za.2.1.1, fun u v => ⟨u, v⟩, fun hb => ?_, fun hb => ?_⟩
 ·have hans := hno 80 (by decide) (by
   unfold addH
   rw [if_neg (by rw [c1, c2]; simp), if_pos ?_]
   rcases hb with ((hb | hb) | hb) | hb
   ·exact .inl (.inl hb)
   ·exact .inl (.inr (.inl hb))
   ·exact .inl (.inr (.inr hb))
   ·exact .inr ⟨fun e => by rw [e] at hb; simp at hb, fun e => by rw [e] at hb; simp at hb, hb.2⟩)
  rw [hans]; exact ⟨rfl, rfl⟩
 have c3 : ¬ ((a.name ≠ b.name ∨ a.quant ≠ b.quant ∨ a.cond ≠ b.cond) ∨ (a.rows ≠ [] ∧ b.rows ≠ [] ∧ a.refs ≠ b.refs)) := fun h => by
  simp only [Bool.or_eq_false_iff, Bool.and_eq_false_iff, decide_eq_false_iff_not, Bool.not_eq_eq_eq_not, Bool.not_false, decide_eq_true_eq] at hb
  rcases h with (h | h | h) | h
  ·exact h hb.1.1.1
  ·exact h hb.1.1.2
  ·exact h hb.1.2
  ·have l1 := List.length_pos_iff.2 h.1
   have l2 := List.length_pos_iff.2 h.2.1
   rcases hb.2 with (h' | h') | h'
   ·omega
   ·omega
   ·exact h.2.2 h'
 refine loopB_by (fun x : Nat => [.junk, .junk, .ptr 0 0, .ptr 1 0, .ptr 2 0, .junk, .junk, vI (9223372036854775807 - total (a.rows.take x)), vI x, .junk, .junk, .junk, .junk, .junk, .junk, .junk, .junk, .junk, .junk, .junk, .junk, .junk, .junk, .junk, .junk, .junk, .junk, .junk, .junk, .junk, .junk, .junk, .junk, .junk, .junk, .junk, .junk, .junk, .junk, .junk, .junk, .junk, .junk, .junk, .junk, .junk, .junk, .junk, .junk, .junk, .junk, .junk, .junk, .junk, .junk, .junk, .junk, .junk, .junk, .junk, .junk, .junk, .junk, .junk, .junk, .junk, .junk, .junk, .junk, .junk, .junk, .junk, .junk, .junk, .junk, .junk, .junk, .junk, .junk, .junk, .junk, .junk, .junk, .junk, .junk, .junk, .junk, .junk, .junk, .junk, .junk, .junk, .junk, .junk, .junk, .junk, .junk, .junk, .junk, .junk, .junk, .junk, .junk, .junk, .junk, .junk, .junk, .junk, .junk, .junk, .junk, .junk, .junk, .junk, .junk, .junk, .junk, .junk, .junk, .junk, .junk, .junk, .junk, .junk, .junk, .junk, .junk, .junk, .junk, .junk, .junk, .junk, .junk, .junk, .junk, .junk, .junk, .junk, .junk, .junk, .junk, .junk, .junk, .junk, .junk, .junk, .junk, .junk, .junk, .junk, .junk, .junk, .junk, .junk, .junk, .junk, .junk]) (fun _ => [.live [vS a.name, vI a.quant, .sl j1 (a.refs.map refP) false, .sl j2 (a.rows.map rowP) false, .sl j3 (a.cond.map nodeP) false], .live [vS b.name, vI b.quant, .sl i1 (b.refs.map refP) false, .sl i2 (b.rows.map rowP) false, .sl i3 (b.cond.map nodeP) false], .live [.val (.string { data := #[] }), vI 0, .sl 0 [] false, .sl 0 [] false, .sl 0 [] false]]) (fun x => x ≤ a.rows.length) (fun x => a.rows.length - x) 0 ?_ ?_ ?_
 ·simp only [RG0, RG1, Nat.reduceAdd, ltL, PV.lt, Blk.lt, Nat.reduceLT, Nat.reduceLeDiff, Wk_rfl, ltL_vI, wk_sl, List.take_zero, total, Int.sub_zero]
 ·omega
 intro x hP
 have hx1 : x ≤ a.rows.length := hP
 have t1 := total_nn (posW_take pa x)
 have t2 := total_take_le pa x
 by_cases hx : x < a.rows.length
 ·have hx' : (x : Int) < a.rows.length := by omega
  have hgo := total_take hx
  have hj : j2 = 50 := k2.resolve_right (by intro e; rw [e] at hx; simp at hx)
  subst hj
  have t3 := total_take_le pa (x + 1)
  have t4 := total_nn (posW_take pa (x + 1))
  generalize hR : a.rows.getD x noRow = r at *
  simp -implicitDefEqProofs (maxSteps := 2000000) only [R0, R1, R2, R3, R4, R5, R6, R7, R8, R9, R10, R11, R12, R13, R14, R15, R16, PV.strip, stripL, PV.noref, ri, feedL, feeds, Nat.reduceBEq, Array.toList, ↓reduceIte, forall_const, implies_true, Nat.reduceEqDiff, reduceCtorEq, alP, bxP, bsP, ifP, quiet, riD, bs_l, PV.isRef, plainCell, norefL, PV.scalar, scalarL, PV.cells, PV.solid, PV.one, PV.free, freeL, fillP, splice, Nat.reduceAdd, Nat.reduceMul, Nat.reduceSub, Nat.reduceLeDiff, Nat.reduceLT, Int.reduceToNat, Int.reduceEq, Int.reduceLT, Int.reduceLE, Int.reduceNeg, E0_vc, vaN, PV.avoid, avoidL, Nat.reduceGT, W7, D7, gd_row, rowP, PV.cells, tk48, tk48a, len48, hl48, strip_vI, List.length_map, Int.toNat_natCast, hx', hR, RB0]
  have e : 9223372036854775807 - total (a.rows.take (x + 1)) = 9223372036854775807 - total (a.rows.take x) - r.c := by omega
  refine ⟨by omega, by unfold inI64; omega, by unfold inI64; omega, x + 1, by omega, by omega, ?_⟩
  simp only [RG0, RG1, Nat.reduceAdd, ltL, PV.lt, Blk.lt, Nat.reduceLT, Nat.reduceLeDiff, Wk_rfl, ltL_vI, wk_sl, e] <;> omega
 have hx' : ¬ (x : Int) < a.rows.length := by omega
 have hxl : a.rows.take x = a.rows := List.take_of_length_le (by omega)
 simp -implicitDefEqProofs (maxSteps := 2000000) only [R0, R1, R2, R3, R4, R5, R6, R7, R8, R9, R10, R11, R12, R13, R14, R15, R16, PV.strip, stripL, PV.noref, ri, feedL, feeds, Nat.reduceBEq, Array.toList, ↓reduceIte, forall_const, implies_true, Nat.reduceEqDiff, reduceCtorEq, alP, bxP, bsP, ifP, quiet, riD, bs_l, PV.isRef, plainCell, norefL, PV.scalar, scalarL, PV.cells, PV.solid, PV.one, PV.free, freeL, fillP, splice, Nat.reduceAdd, Nat.reduceMul, Nat.reduceSub, Nat.reduceLeDiff, Nat.reduceLT, Int.reduceToNat, Int.reduceEq, Int.reduceLT, Int.reduceLE, Int.reduceNeg, E0_vc, vaN, PV.avoid, avoidL, Nat.reduceGT, W7, D7, List.length_map, hx', hxl, RB0]
 refine loopB_by (fun x : Nat => [.junk, .junk, .ptr 0 0, .ptr 1 0, .ptr 2 0, .junk, .junk, vI (9223372036854775807 - total a.rows - total (b.rows.take x)), .junk, vI x, .junk, .junk, .junk, .junk, .junk, .junk, .junk, .junk, .junk, .junk, .junk, .junk, .junk, .junk, .junk, .junk, .junk, .junk, .junk, .junk, .junk, .junk, .junk, .junk, .junk, .junk, .junk, .junk, .junk, .junk, .junk, .junk, .junk, .junk, .junk, .junk, .junk, .junk, .junk, .junk, .junk, .junk, .junk, .junk, .junk, .junk, .junk, .junk, .junk, .junk, .junk, .junk, .junk, .junk, .junk, .junk, .junk, .junk, .junk, .junk, .junk, .junk, .junk, .junk, .junk, .junk, .junk, .junk, .junk, .junk, .junk, .junk, .junk, .junk, .junk, .junk, .junk, .junk, .junk, .junk, .junk, .junk, .junk, .junk, .junk, .junk, .junk, .junk, .junk, .junk, .junk, .junk, .junk, .junk, .junk, .junk, .junk, .junk, .junk, .junk, .junk, .junk, .junk, .junk, .junk, .junk, .junk, .junk, .junk, .junk, .junk, .junk, .junk, .junk, .junk, .junk, .junk, .junk, .junk, .junk, .junk, .junk, .junk, .junk, .junk, .junk, .junk, .junk, .junk, .junk, .junk, .junk, .junk, .junk, .junk, .junk, .junk, .junk, .junk, .junk, .junk, .junk, .junk, .junk, .junk, .junk, .junk]) (fun _ => [.live [vS a.name, vI a.quant, .sl j1 (a.refs.map refP) false, .sl j2 (a.rows.map rowP) false, .sl j3 (a.cond.map nodeP) false], .live [vS b.name, vI b.quant, .sl i1 (b.refs.map refP) false, .sl i2 (b.rows.map rowP) false, .sl i3 (b.cond.map nodeP) false], .live [.val (.string { data := #[] }), vI 0, .sl 0 [] false, .sl 0 [] false, .sl 0 [] false]]) (fun x => x ≤ b.rows.length ∧ total a.rows + total (b.rows.take x) ≤ 9223372036854775807) (fun x => b.rows.length - x) 0 ?_ ?_ ?_
 ·simp only [RG0, RG1, Nat.reduceAdd, ltL, PV.lt, Blk.lt, Nat.reduceLT, Nat.reduceLeDiff, Wk_rfl, ltL_vI, wk_sl, List.take_zero, total, Int.sub_zero]
 ·exact ⟨by omega, by simp only [List.take_zero, total]; omega⟩
 intro y hP
 have hy1 := hP.1; have hy2 := hP.2
 have v1 := total_nn (posW_take pb y)
 have v2 := total_take_le pb y
 by_cases hy : y < b.rows.length
 ·have hy' : (y : Int) < b.rows.length := by omega
  have hgo := total_take hy
  have hj : i2 = 50 := m2.resolve_right (by intro e; rw [e] at hy; simp at hy)
  subst hj
  have v3 := total_take_le pb (y + 1)
  generalize hR : b.rows.getD y noRow = r at *
  simp -implicitDefEqProofs (maxSteps := 2000000) only [R0, R1, R2, R3, R4, R5, R6, R7, R8, R9, R10, R11, R12, R13, R14, R15, R16, PV.strip, stripL, PV.noref, ri, feedL, feeds, Nat.reduceBEq, Array.toList, ↓reduceIte, forall_const, implies_true, Nat.reduceEqDiff, reduceCtorEq, alP, bxP, bsP, ifP, quiet, riD, bs_l, PV.isRef, plainCell, norefL, PV.scalar, scalarL, PV.cells, PV.solid, PV.one, PV.free, freeL, fillP, splice, Nat.reduceAdd, Nat.reduceMul, Nat.reduceSub, Nat.reduceLeDiff, Nat.reduceLT, Int.reduceToNat, Int.reduceEq, Int.reduceLT, Int.reduceLE, Int.reduceNeg, E0_vc, vaN, PV.avoid, avoidL, Nat.reduceGT, W7, D7, gd_row, rowP, PV.cells, tk48, tk48a, len48, hl48, strip_vI, List.length_map, Int.toNat_natCast, hy', hR, rb2, rc_s, lq_t, lq_f, hll, RB0]
  have e : 9223372036854775807 - total a.rows - total (b.rows.take (y + 1)) = 9223372036854775807 - total a.rows - total (b.rows.take y) - r.c := by omega
  have hrp := pb r (by rw [← hR, List.getD_eq_getElem?_getD, List.getElem?_eq_getElem hy]; exact List.getElem_mem hy)
  refine ⟨by omega, fun hgt => ?_, fun hle => ⟨by omega, by unfold inI64; omega, by unfold inI64; omega, y + 1, ⟨by omega, by omega⟩, by omega, ?_⟩⟩
  ·have hans := hno 41 (by decide) (by
    unfold addH; rw [if_neg (by rw [c1, c2]; simp), if_neg c3, if_pos (by omega)])
   rw [hans]; exact ⟨rfl, rfl⟩
  ·simp only [RG0, RG1, Nat.reduceAdd, ltL, PV.lt, Blk.lt, Nat.reduceLT, Nat.reduceLeDiff, Wk_rfl, ltL_vI, wk_sl, e] <;> omega
 have hy' : ¬ (y : Int) < b.rows.length := by omega
 have hyl : b.rows.take y = b.rows := List.take_of_length_le (by omega)
 rw [hyl] at hy2
 have hadd : (addH a b).2 = 0 := by
  unfold addH; rw [if_neg (by rw [c1, c2]; simp), if_neg c3, if_neg (by omega)]
 have hasa := (okRows_asc (okH_rows c1)).1
 have hasb := (okRows_asc (okH_rows c2)).1
 by_cases ha0 : a.rows = []
 ·have hal : ¬ 0 < (a.rows.length : Int) := by rw [ha0]; simp
  by_cases hb0 : b.rows = []
  ·have hbl : ¬ 0 < (b.rows.length : Int) := by rw [hb0]; simp
   have hans : rAnsV (.agg [vS a.name, vI a.quant, .sl j1 (a.refs.map refP) o1, .sl j2 (a.rows.map rowP) o2, .sl j3 (a.cond.map nodeP) o3]) (.agg [vS b.name, vI b.quant, .sl i1 (b.refs.map refP) a1, .sl i2 (b.rows.map rowP) a2, .sl i3 (b.cond.map nodeP) a3]) a b = .tuple [.agg [vS a.name, vI a.quant, .sl 0 [] false, rowsV (mrgR a.rows b.rows), .sl j3 (a.cond.map nodeP) false], vI 0] := by
    unfold rAnsV; rw [if_pos hadd, if_pos hb0, if_pos ha0]; rfl
   simp -implicitDefEqProofs (maxSteps := 2000000) only [R0, R1, R2, R3, R4, R5, R6, R7, R8, R9, R10, R11, R12, R13, R14, R15, R16, PV.strip, stripL, PV.noref, ri, feedL, feeds, Nat.reduceBEq, Array.toList, ↓reduceIte, forall_const, implies_true, Nat.reduceEqDiff, reduceCtorEq, alP, bxP, bsP, ifP, quiet, riD, bs_l, PV.isRef, plainCell, norefL, PV.scalar, scalarL, PV.cells, PV.solid, PV.one, PV.free, freeL, fillP, splice, Nat.reduceAdd, Nat.reduceMul, Nat.reduceSub, Nat.reduceLeDiff, Nat.reduceLT, Int.reduceToNat, Int.reduceEq, Int.reduceLT, Int.reduceLE, Int.reduceNeg, E0_vc, vaN, PV.avoid, avoidL, Nat.reduceGT, W7, D7, List.length_map, hy', hal, hbl, RB0]
   refine loopB_by (fun x : Nat => [.junk, .junk, .ptr 0 0, .ptr 1 0, .ptr 2 0, .junk, .junk, .junk, .junk, .junk, .ptr 3 0, vI x, .junk, .junk, .junk, .junk, .junk, .junk, .junk, .junk, .junk, .junk, .junk, .junk, .junk, .junk, .junk, .junk, .junk, .junk, .junk, .junk, .junk, .junk, .junk, .junk, .junk, .junk, .junk, .junk, .junk, .junk, .junk, .junk, .junk, .junk, .junk, .junk, .junk, .junk, .junk, .junk, .junk, .junk, .junk, .junk, .junk, .junk, .junk, .junk, .junk, .junk, .junk, .junk, .junk, .junk, .junk, .junk, .junk, .junk, .junk, .junk, .junk, .junk, .junk, .junk, .junk, .junk, .junk, .junk, .junk, .junk, .junk, .junk, .junk, .junk, .junk, .junk, .junk, .junk, .junk, .junk, .junk, .junk, .junk, .junk, .junk, .junk, .junk, .junk, .junk, .junk, .junk, .junk, .junk, .junk, .junk, .junk, .junk, .junk, .junk, .junk, .junk, .junk, .junk, .junk, .junk, .junk, .junk, .junk, .junk, .junk, .junk, .junk, .junk, .junk, .junk, .junk, .junk, .junk, .junk, .junk, .junk, .junk, .junk, .junk, .junk, .junk, .junk, .junk, .junk, .junk, .junk, .junk, .junk, .junk, .junk, .junk, .junk, .junk, .junk, .junk, .junk, .junk, .junk, .junk, .junk]) (fun x => [.live [vS a.name, vI a.quant, .sl j1 (a.refs.map refP) false, .sl j2 (a.rows.map rowP) false, .sl j3 (a.cond.map nodeP) false], .live [vS b.name, vI b.quant, .sl i1 (b.refs.map refP) false, .sl i2 (b.rows.map rowP) false, .sl i3 (b.cond.map nodeP) false], .live [.val (.string { data := #[] }), vI 0, .sl 0 [] false, .sl 0 [] false, .sl 0 [] false], .live [vS a.name, vI a.quant, .sl 0 [] false, rowsV (a.rows.take x), .sl j3 (a.cond.map nodeP) false]]) (fun x => x ≤ a.rows.length) (fun x => a.rows.length - x) 0 ?_ ?_ ?_
   ·simp only [RG0, RG1, Nat.reduceAdd, ltL, PV.lt, Blk.lt, Nat.reduceLT, Nat.reduceLeDiff, Wk_rfl, ltL_vI, wk_sl, List.take_zero, rowsV_0]; try exact .inl rfl
   ·omega
   intro x hP
   have hx1 : x ≤ a.rows.length := hP
   by_cases hx : x < a.rows.length
   ·have hx' : (x : Int) < a.rows.length := by omega
    have hput := put_take hasa hx
    have hpk := putK_take hasa hx
    obtain ⟨jx, hX, hjx⟩ := rowsV_eq (a.rows.take x)
    have hpe := fun o x => putE (o := o) hjx x
    have hj : j2 = 50 := k2.resolve_right (by intro e; rw [e] at hx; simp at hx)
    subst hj
    generalize hR : a.rows.getD x noRow = r at *
    simp -implicitDefEqProofs (maxSteps := 2000000) only [R0, R1, R2, R3, R4, R5, R6, R7, R8, R9, R10, R11, R12, R13, R14, R15, R16, PV.strip, stripL, PV.noref, ri, feedL, feeds, Nat.reduceBEq, Array.toList, ↓reduceIte, forall_const, implies_true, Nat.reduceEqDiff, reduceCtorEq, alP, bxP, bsP, ifP, quiet, riD, bs_l, PV.isRef, plainCell, norefL, PV.scalar, scalarL, PV.cells, PV.solid, PV.one, PV.free, freeL, fillP, splice, Nat.reduceAdd, Nat.reduceMul, Nat.reduceSub, Nat.reduceLeDiff, Nat.reduceLT, Int.reduceToNat, Int.reduceEq, Int.reduceLT, Int.reduceLE, Int.reduceNeg, E0_vc, vaN, PV.avoid, avoidL, Nat.reduceGT, W7, D7, gd_row, rowP, PV.cells, tk48, tk48a, len48, hl48, strip_vI, List.length_map, Int.toNat_natCast, hx', hR, hX, hpe, RB0]
    have hne : ¬ a.rows.take (x + 1) = [] := by rw [← hput]; exact (putL_law _ _).2.2.2
    refine ⟨.inl (by decide), by omega, by rw [List.length_take]; omega, fun h => by rw [hpk] at h; omega, by unfold inI64; omega, x + 1, by omega, by omega, ?_⟩
    simp only [RG0, RG1, Nat.reduceAdd, ltL, PV.lt, Blk.lt, Nat.reduceLT, Nat.reduceLeDiff, Wk_rfl, ltL_vI, wk_sl, hput, rowsV_ne hne] <;> omega
   have hx' : ¬ (x : Int) < a.rows.length := by omega
   have hxl2 : a.rows.take x = a.rows := List.take_of_length_le (by omega)
   simp -implicitDefEqProofs (maxSteps := 2000000) only [R0, R1, R2, R3, R4, R5, R6, R7, R8, R9, R10, R11, R12, R13, R14, R15, R16, PV.strip, stripL, PV.noref, ri, feedL, feeds, Nat.reduceBEq, Array.toList, ↓reduceIte, forall_const, implies_true, Nat.reduceEqDiff, reduceCtorEq, alP, bxP, bsP, ifP, quiet, riD, bs_l, PV.isRef, plainCell, norefL, PV.scalar, scalarL, PV.cells, PV.solid, PV.one, PV.free, freeL, fillP, splice, Nat.reduceAdd, Nat.reduceMul, Nat.reduceSub, Nat.reduceLeDiff, Nat.reduceLT, Int.reduceToNat, Int.reduceEq, Int.reduceLT, Int.reduceLE, Int.reduceNeg, E0_vc, vaN, PV.avoid, avoidL, Nat.reduceGT, W7, D7, List.length_map, hx', hxl2, RB0]
   refine loopB_by (fun x : Nat => [.junk, .junk, .junk, .ptr 1 0, .ptr 2 0, .junk, .junk, .junk, .junk, .junk, .ptr 3 0, .junk, vI x, .junk, .junk, .junk, .junk, .junk, .junk, .junk, .junk, .junk, .junk, .junk, .junk, .junk, .junk, .junk, .junk, .junk, .junk, .junk, .junk, .junk, .junk, .junk, .junk, .junk, .junk, .junk, .junk, .junk, .junk, .junk, .junk, .junk, .junk, .junk, .junk, .junk, .junk, .junk, .junk, .junk, .junk, .junk, .junk, .junk, .junk, .junk, .junk, .junk, .junk, .junk, .junk, .junk, .junk, .junk, .junk, .junk, .junk, .junk, .junk, .junk, .junk, .junk, .junk, .junk, .junk, .junk, .junk, .junk, .junk, .junk, .junk, .junk, .junk, .junk, .junk, .junk, .junk, .junk, .junk, .junk, .junk, .junk, .junk, .junk, .junk, .junk, .junk, .junk, .junk, .junk, .junk, .junk, .junk, .junk, .junk, .junk, .junk, .junk, .junk, .junk, .junk, .junk, .junk, .junk, .junk, .junk, .junk, .junk, .junk, .junk, .junk, .junk, .junk, .junk, .junk, .junk, .junk, .junk, .junk, .junk, .junk, .junk, .junk, .junk, .junk, .junk, .junk, .junk, .junk, .junk, .junk, .junk, .junk, .junk, .junk, .junk, .junk, .junk, .junk, .junk, .junk, .junk, .junk]) (fun x => [.live [vS a.name, vI a.quant, .sl j1 (a.refs.map refP) false, .sl j2 (a.rows.map rowP) false, .sl j3 (a.cond.map nodeP) false], .live [vS b.name, vI b.quant, .sl i1 (b.refs.map refP) false, .sl i2 (b.rows.map rowP) false, .sl i3 (b.cond.map nodeP) false], .live [.val (.string { data := #[] }), vI 0, .sl 0 [] false, .sl 0 [] false, .sl 0 [] false], .live [vS a.name, vI a.quant, .sl 0 [] false, rowsV (mrgR a.rows (b.rows.take x)), .sl j3 (a.cond.map nodeP) false]]) (fun x => x ≤ b.rows.length) (fun x => b.rows.length - x) 0 ?_ ?_ ?_
   ·simp only [RG0, RG1, Nat.reduceAdd, ltL, PV.lt, Blk.lt, Nat.reduceLT, Nat.reduceLeDiff, Wk_rfl, ltL_vI, wk_sl, List.take_zero, mrgR_end]
   ·omega
   intro y hP
   have hy3 : y ≤ b.rows.length := hP
   by_cases hyy : y < b.rows.length
   ·have hy4 : (y : Int) < b.rows.length := by omega
    have hput := put_mrg (a := a.rows) hasb hyy
    obtain ⟨jx, hX, hjx⟩ := rowsV_eq (mrgR a.rows (b.rows.take y))
    have hpe := fun o x => putE (o := o) hjx x
    have hj : i2 = 50 := m2.resolve_right (by intro e; rw [e] at hyy; simp at hyy)
    subst hj
    have hask := mrg_ask (a := a.rows) pa pb hasb hyy (by omega) (by omega)
    generalize hR : b.rows.getD y noRow = r at *
    simp -implicitDefEqProofs (maxSteps := 2000000) only [R0, R1, R2, R3, R4, R5, R6, R7, R8, R9, R10, R11, R12, R13, R14, R15, R16, PV.strip, stripL, PV.noref, ri, feedL, feeds, Nat.reduceBEq, Array.toList, ↓reduceIte, forall_const, implies_true, Nat.reduceEqDiff, reduceCtorEq, alP, bxP, bsP, ifP, quiet, riD, bs_l, PV.isRef, plainCell, norefL, PV.scalar, scalarL, PV.cells, PV.solid, PV.one, PV.free, freeL, fillP, splice, Nat.reduceAdd, Nat.reduceMul, Nat.reduceSub, Nat.reduceLeDiff, Nat.reduceLT, Int.reduceToNat, Int.reduceEq, Int.reduceLT, Int.reduceLE, Int.reduceNeg, E0_vc, vaN, PV.avoid, avoidL, Nat.reduceGT, W7, D7, gd_row, rowP, PV.cells, tk48, tk48a, len48, hl48, strip_vI, List.length_map, Int.toNat_natCast, hy4, hR, hX, hpe, RB0]
    have hne : ¬ mrgR a.rows (b.rows.take (y + 1)) = [] := by rw [← hput]; exact (putL_law _ _).2.2.2
    refine ⟨.inl (by decide), by omega, hask.1, fun h => hask.2 _ h, by unfold inI64; omega, y + 1, by omega, by omega, ?_⟩
    simp only [RG0, RG1, Nat.reduceAdd, ltL, PV.lt, Blk.lt, Nat.reduceLT, Nat.reduceLeDiff, Wk_rfl, ltL_vI, wk_sl, hput, rowsV_ne hne] <;> omega
   have hy4 : ¬ (y : Int) < b.rows.length := by omega
   have hyl2 : b.rows.take y = b.rows := List.take_of_length_le (by omega)
   simp -implicitDefEqProofs (maxSteps := 2000000) only [R0, R1, R2, R3, R4, R5, R6, R7, R8, R9, R10, R11, R12, R13, R14, R15, R16, PV.strip, stripL, PV.noref, ri, feedL, feeds, Nat.reduceBEq, Array.toList, ↓reduceIte, forall_const, implies_true, Nat.reduceEqDiff, reduceCtorEq, alP, bxP, bsP, ifP, quiet, riD, bs_l, PV.isRef, plainCell, norefL, PV.scalar, scalarL, PV.cells, PV.solid, PV.one, PV.free, freeL, fillP, splice, Nat.reduceAdd, Nat.reduceMul, Nat.reduceSub, Nat.reduceLeDiff, Nat.reduceLT, Int.reduceToNat, Int.reduceEq, Int.reduceLT, Int.reduceLE, Int.reduceNeg, E0_vc, vaN, PV.avoid, avoidL, Nat.reduceGT, W7, D7, List.length_map, hy4, hyl2, hans, rb2, rc_s, lq_t, lq_f, hll4, RB0]
   obtain ⟨jm, hM, _⟩ := rowsV_eq (mrgR a.rows b.rows)
   rw [hM]
   exact ⟨rfl, by simp [PV.noref, norefL_eq, nr_row]⟩
  ·have hbl : 0 < (b.rows.length : Int) := by
    have := List.length_pos_iff.2 hb0
    omega
   have hans : rAnsV (.agg [vS a.name, vI a.quant, .sl j1 (a.refs.map refP) o1, .sl j2 (a.rows.map rowP) o2, .sl j3 (a.cond.map nodeP) o3]) (.agg [vS b.name, vI b.quant, .sl i1 (b.refs.map refP) a1, .sl i2 (b.rows.map rowP) a2, .sl i3 (b.cond.map nodeP) a3]) a b = .tuple [.agg [vS a.name, vI a.quant, .sl i1 (b.refs.map refP) false, rowsV (mrgR a.rows b.rows), .sl j3 (a.cond.map nodeP) false], vI 0] := by
    unfold rAnsV; rw [if_pos hadd, if_neg hb0]; rfl
   simp -implicitDefEqProofs (maxSteps := 2000000) only [R0, R1, R2, R3, R4, R5, R6, R7, R8, R9, R10, R11, R12, R13, R14, R15, R16, PV.strip, stripL, PV.noref, ri, feedL, feeds, Nat.reduceBEq, Array.toList, ↓reduceIte, forall_const, implies_true, Nat.reduceEqDiff, reduceCtorEq, alP, bxP, bsP, ifP, quiet, riD, bs_l, PV.isRef, plainCell, norefL, PV.scalar, scalarL, PV.cells, PV.solid, PV.one, PV.free, freeL, fillP, splice, Nat.reduceAdd, Nat.reduceMul, Nat.reduceSub, Nat.reduceLeDiff, Nat.reduceLT, Int.reduceToNat, Int.reduceEq, Int.reduceLT, Int.reduceLE, Int.reduceNeg, E0_vc, vaN, PV.avoid, avoidL, Nat.reduceGT, W7, D7, List.length_map, hy', hal, hbl, RB0]
   refine loopB_by (fun x : Nat => [.junk, .junk, .ptr 0 0, .ptr 1 0, .ptr 2 0, .junk, .junk, .junk, .junk, .junk, .ptr 3 0, vI x, .junk, .junk, .junk, .junk, .junk, .junk, .junk, .junk, .junk, .junk, .junk, .junk, .junk, .junk, .junk, .junk, .junk, .junk, .junk, .junk, .junk, .junk, .junk, .junk, .junk, .junk, .junk, .junk, .junk, .junk, .junk, .junk, .junk, .junk, .junk, .junk, .junk, .junk, .junk, .junk, .junk, .junk, .junk, .junk, .junk, .junk, .junk, .junk, .junk, .junk, .junk, .junk, .junk, .junk, .junk, .junk, .junk, .junk, .junk, .junk, .junk, .junk, .junk, .junk, .junk, .junk, .junk, .junk, .junk, .junk, .junk, .junk, .junk, .junk, .junk, .junk, .junk, .junk, .junk, .junk, .junk, .junk, .junk, .junk, .junk, .junk, .junk, .junk, .junk, .junk, .junk, .junk, .junk, .junk, .junk, .junk, .junk, .junk, .junk, .junk, .junk, .junk, .junk, .junk, .junk, .junk, .junk, .junk, .junk, .junk, .junk, .junk, .junk, .junk, .junk, .junk, .junk, .junk, .junk, .junk, .junk, .junk, .junk, .junk, .junk, .junk, .junk, .junk, .junk, .junk, .junk, .junk, .junk, .junk, .junk, .junk, .junk, .junk, .junk, .junk, .junk, .junk, .junk, .junk, .junk]) (fun x => [.live [vS a.name, vI a.quant, .sl j1 (a.refs.map refP) false, .sl j2 (a.rows.map rowP) false, .sl j3 (a.cond.map nodeP) false], .live [vS b.name, vI b.quant, .sl i1 (b.refs.map refP) false, .sl i2 (b.rows.map rowP) false, .sl i3 (b.cond.map nodeP) false], .live [.val (.string { data := #[] }), vI 0, .sl 0 [] false, .sl 0 [] false, .sl 0 [] false], .live [vS a.name, vI a.quant, .sl i1 (b.refs.map refP) false, rowsV (a.rows.take x), .sl j3 (a.cond.map nodeP) false]]) (fun x => x ≤ a.rows.length) (fun x => a.rows.length - x) 0 ?_ ?_ ?_
   ·simp only [RG0, RG1, Nat.reduceAdd, ltL, PV.lt, Blk.lt, Nat.reduceLT, Nat.reduceLeDiff, Wk_rfl, ltL_vI, wk_sl, List.take_zero, rowsV_0]; try exact .inl rfl
   ·omega
   intro x hP
   have hx1 : x ≤ a.rows.length := hP
   by_cases hx : x < a.rows.length
   ·have hx' : (x : Int) < a.rows.length := by omega
    have hput := put_take hasa hx
    have hpk := putK_take hasa hx
    obtain ⟨jx, hX, hjx⟩ := rowsV_eq (a.rows.take x)
    have hpe := fun o x => putE (o := o) hjx x
    have hj : j2 = 50 := k2.resolve_right (by intro e; rw [e] at hx; simp at hx)
    subst hj
    generalize hR : a.rows.getD x noRow = r at *
    simp -implicitDefEqProofs (maxSteps := 2000000) only [R0, R1, R2, R3, R4, R5, R6, R7, R8, R9, R10, R11, R12, R13, R14, R15, R16, PV.strip, stripL, PV.noref, ri, feedL, feeds, Nat.reduceBEq, Array.toList, ↓reduceIte, forall_const, implies_true, Nat.reduceEqDiff, reduceCtorEq, alP, bxP, bsP, ifP, quiet, riD, bs_l, PV.isRef, plainCell, norefL, PV.scalar, scalarL, PV.cells, PV.solid, PV.one, PV.free, freeL, fillP, splice, Nat.reduceAdd, Nat.reduceMul, Nat.reduceSub, Nat.reduceLeDiff, Nat.reduceLT, Int.reduceToNat, Int.reduceEq, Int.reduceLT, Int.reduceLE, Int.reduceNeg, E0_vc, vaN, PV.avoid, avoidL, Nat.reduceGT, W7, D7, gd_row, rowP, PV.cells, tk48, tk48a, len48, hl48, strip_vI, List.length_map, Int.toNat_natCast, hx', hR, hX, hpe, RB0]
    have hne : ¬ a.rows.take (x + 1) = [] := by rw [← hput]; exact (putL_law _ _).2.2.2
    refine ⟨.inl (by decide), by omega, by rw [List.length_take]; omega, fun h => by rw [hpk] at h; omega, by unfold inI64; omega, x + 1, by omega, by omega, ?_⟩
    simp only [RG0, RG1, Nat.reduceAdd, ltL, PV.lt, Blk.lt, Nat.reduceLT, Nat.reduceLeDiff, Wk_rfl, ltL_vI, wk_sl, hput, rowsV_ne hne] <;> omega
   have hx' : ¬ (x : Int) < a.rows.length := by omega
   have hxl2 : a.rows.take x = a.rows := List.take_of_length_le (by omega)
   simp -implicitDefEqProofs (maxSteps := 2000000) only [R0, R1, R2, R3, R4, R5, R6, R7, R8, R9, R10, R11, R12, R13, R14, R15, R16, PV.strip, stripL, PV.noref, ri, feedL, feeds, Nat.reduceBEq, Array.toList, ↓reduceIte, forall_const, implies_true, Nat.reduceEqDiff, reduceCtorEq, alP, bxP, bsP, ifP, quiet, riD, bs_l, PV.isRef, plainCell, norefL, PV.scalar, scalarL, PV.cells, PV.solid, PV.one, PV.free, freeL, fillP, splice, Nat.reduceAdd, Nat.reduceMul, Nat.reduceSub, Nat.reduceLeDiff, Nat.reduceLT, Int.reduceToNat, Int.reduceEq, Int.reduceLT, Int.reduceLE, Int.reduceNeg, E0_vc, vaN, PV.avoid, avoidL, Nat.reduceGT, W7, D7, List.length_map, hx', hxl2, RB0]
   refine loopB_by (fun x : Nat => [.junk, .junk, .junk, .ptr 1 0, .ptr 2 0, .junk, .junk, .junk, .junk, .junk, .ptr 3 0, .junk, vI x, .junk, .junk, .junk, .junk, .junk, .junk, .junk, .junk, .junk, .junk, .junk, .junk, .junk, .junk, .junk, .junk, .junk, .junk, .junk, .junk, .junk, .junk, .junk, .junk, .junk, .junk, .junk, .junk, .junk, .junk, .junk, .junk, .junk, .junk, .junk, .junk, .junk, .junk, .junk, .junk, .junk, .junk, .junk, .junk, .junk, .junk, .junk, .junk, .junk, .junk, .junk, .junk, .junk, .junk, .junk, .junk, .junk, .junk, .junk, .junk, .junk, .junk, .junk, .junk, .junk, .junk, .junk, .junk, .junk, .junk, .junk, .junk, .junk, .junk, .junk, .junk, .junk, .junk, .junk, .junk, .junk, .junk, .junk, .junk, .junk, .junk, .junk, .junk, .junk, .junk, .junk, .junk, .junk, .junk, .junk, .junk, .junk, .junk, .junk, .junk, .junk, .junk, .junk, .junk, .junk, .junk, .junk, .junk, .junk, .junk, .junk, .junk, .junk, .junk, .junk, .junk, .junk, .junk, .junk, .junk, .junk, .junk, .junk, .junk, .junk, .junk, .junk, .junk, .junk, .junk, .junk, .junk, .junk, .junk, .junk, .junk, .junk, .junk, .junk, .junk, .junk, .junk, .junk, .junk]) (fun x => [.live [vS a.name, vI a.quant, .sl j1 (a.refs.map refP) false, .sl j2 (a.rows.map rowP) false, .sl j3 (a.cond.map nodeP) false], .live [vS b.name, vI b.quant, .sl i1 (b.refs.map refP) false, .sl i2 (b.rows.map rowP) false, .sl i3 (b.cond.map nodeP) false], .live [.val (.string { data := #[] }), vI 0, .sl 0 [] false, .sl 0 [] false, .sl 0 [] false], .live [vS a.name, vI a.quant, .sl i1 (b.refs.map refP) false, rowsV (mrgR a.rows (b.rows.take x)), .sl j3 (a.cond.map nodeP) false]]) (fun x => x ≤ b.rows.length) (fun x => b.rows.length - x) 0 ?_ ?_ ?_
   ·simp only [RG0, RG1, Nat.reduceAdd, ltL, PV.lt, Blk.lt, Nat.reduceLT, Nat.reduceLeDiff, Wk_rfl, ltL_vI, wk_sl, List.take_zero, mrgR_end]
   ·omega
   intro y hP
   have hy3 : y ≤ b.rows.length := hP
   by_cases hyy : y < b.rows.length
   ·have hy4 : (y : Int) < b.rows.length := by omega
    have hput := put_mrg (a := a.rows) hasb hyy
    obtain ⟨jx, hX, hjx⟩ := rowsV_eq (mrgR a.rows (b.rows.take y))
    have hpe := fun o x => putE (o := o) hjx x
    have hj : i2 = 50 := m2.resolve_right (by intro e; rw [e] at hyy; simp at hyy)
    subst hj
    have hask := mrg_ask (a := a.rows) pa pb hasb hyy (by omega) (by omega)
    generalize hR : b.rows.getD y noRow = r at *
    simp -implicitDefEqProofs (maxSteps := 2000000) only [R0, R1, R2, R3, R4, R5, R6, R7, R8, R9, R10, R11, R12, R13, R14, R15, R16, PV.strip, stripL, PV.noref, ri, feedL, feeds, Nat.reduceBEq, Array.toList, ↓reduceIte, forall_const, implies_true, Nat.reduceEqDiff, reduceCtorEq, alP, bxP, bsP, ifP, quiet, riD, bs_l, PV.isRef, plainCell, norefL, PV.scalar, scalarL, PV.cells, PV.solid, PV.one, PV.free, freeL, fillP, splice, Nat.reduceAdd, Nat.reduceMul, Nat.reduceSub, Nat.reduceLeDiff, Nat.reduceLT, Int.reduceToNat, Int.reduceEq, Int.reduceLT, Int.reduceLE, Int.reduceNeg, E0_vc, vaN, PV.avoid, avoidL, Nat.reduceGT, W7, D7, gd_row, rowP, PV.cells, tk48, tk48a, len48, hl48, strip_vI, List.length_map, Int.toNat_natCast, hy4, hR, hX, hpe, RB0]
    have hne : ¬ mrgR a.rows (b.rows.take (y + 1)) = [] := by rw [← hput]; exact (putL_law _ _).2.2.2
    refine ⟨.inl (by decide), by omega, hask.1, fun h => hask.2 _ h, by unfold inI64; omega, y + 1, by omega, by omega, ?_⟩
    simp only [RG0, RG1, Nat.reduceAdd, ltL, PV.lt, Blk.lt, Nat.reduceLT, Nat.reduceLeDiff, Wk_rfl, ltL_vI, wk_sl, hput, rowsV_ne hne] <;> omega
   have hy4 : ¬ (y : Int) < b.rows.length := by omega
   have hyl2 : b.rows.take y = b.rows := List.take_of_length_le (by omega)
   simp -implicitDefEqProofs (maxSteps := 2000000) only [R0, R1, R2, R3, R4, R5, R6, R7, R8, R9, R10, R11, R12, R13, R14, R15, R16, PV.strip, stripL, PV.noref, ri, feedL, feeds, Nat.reduceBEq, Array.toList, ↓reduceIte, forall_const, implies_true, Nat.reduceEqDiff, reduceCtorEq, alP, bxP, bsP, ifP, quiet, riD, bs_l, PV.isRef, plainCell, norefL, PV.scalar, scalarL, PV.cells, PV.solid, PV.one, PV.free, freeL, fillP, splice, Nat.reduceAdd, Nat.reduceMul, Nat.reduceSub, Nat.reduceLeDiff, Nat.reduceLT, Int.reduceToNat, Int.reduceEq, Int.reduceLT, Int.reduceLE, Int.reduceNeg, E0_vc, vaN, PV.avoid, avoidL, Nat.reduceGT, W7, D7, List.length_map, hy4, hyl2, hans, rb2, rc_s, lq_t, lq_f, hll4, RB0]
   obtain ⟨jm, hM, _⟩ := rowsV_eq (mrgR a.rows b.rows)
   rw [hM]
   exact ⟨rfl, by simp [PV.noref, norefL_eq, nr_row]⟩
 ·have hal : 0 < (a.rows.length : Int) := by
   have := List.length_pos_iff.2 ha0
   omega
  by_cases hb0 : b.rows = []
  ·have hbl : ¬ 0 < (b.rows.length : Int) := by rw [hb0]; simp
   have hans : rAnsV (.agg [vS a.name, vI a.quant, .sl j1 (a.refs.map refP) o1, .sl j2 (a.rows.map rowP) o2, .sl j3 (a.cond.map nodeP) o3]) (.agg [vS b.name, vI b.quant, .sl i1 (b.refs.map refP) a1, .sl i2 (b.rows.map rowP) a2, .sl i3 (b.cond.map nodeP) a3]) a b = .tuple [.agg [vS a.name, vI a.quant, .sl j1 (a.refs.map refP) false, rowsV (mrgR a.rows b.rows), .sl j3 (a.cond.map nodeP) false], vI 0] := by
    unfold rAnsV; rw [if_pos hadd, if_pos hb0, if_neg ha0]; rfl
   simp -implicitDefEqProofs (maxSteps := 2000000) only [R0, R1, R2, R3, R4, R5, R6, R7, R8, R9, R10, R11, R12, R13, R14, R15, R16, PV.strip, stripL, PV.noref, ri, feedL, feeds, Nat.reduceBEq, Array.toList, ↓reduceIte, forall_const, implies_true, Nat.reduceEqDiff, reduceCtorEq, alP, bxP, bsP, ifP, quiet, riD, bs_l, PV.isRef, plainCell, norefL, PV.scalar, scalarL, PV.cells, PV.solid, PV.one, PV.free, freeL, fillP, splice, Nat.reduceAdd, Nat.reduceMul, Nat.reduceSub, Nat.reduceLeDiff, Nat.reduceLT, Int.reduceToNat, Int.reduceEq, Int.reduceLT, Int.reduceLE, Int.reduceNeg, E0_vc, vaN, PV.avoid, avoidL, Nat.reduceGT, W7, D7, List.length_map, hy', hal, hbl, RB0]
   refine loopB_by (fun x : Nat => [.junk, .junk, .ptr 0 0, .ptr 1 0, .ptr 2 0, .junk, .junk, .junk, .junk, .junk, .ptr 3 0, vI x, .junk, .junk, .junk, .junk, .junk, .junk, .junk, .junk, .junk, .junk, .junk, .junk, .junk, .junk, .junk, .junk, .junk, .junk, .junk, .junk, .junk, .junk, .junk, .junk, .junk, .junk, .junk, .junk, .junk, .junk, .junk, .junk, .junk, .junk, .junk, .junk, .junk, .junk, .junk, .junk, .junk, .junk, .junk, .junk, .junk, .junk, .junk, .junk, .junk, .junk, .junk, .junk, .junk, .junk, .junk, .junk, .junk, .junk, .junk, .junk, .junk, .junk, .junk, .junk, .junk, .junk, .junk, .junk, .junk, .junk, .junk, .junk, .junk, .junk, .junk, .junk, .junk, .junk, .junk, .junk, .junk, .junk, .junk, .junk, .junk, .junk, .junk, .junk, .junk, .junk, .junk, .junk, .junk, .junk, .junk, .junk, .junk, .junk, .junk, .junk, .junk, .junk, .junk, .junk, .junk, .junk, .junk, .junk, .junk, .junk, .junk, .junk, .junk, .junk, .junk, .junk, .junk, .junk, .junk, .junk, .junk, .junk, .junk, .junk, .junk, .junk, .junk, .junk, .junk, .junk, .junk, .junk, .junk, .junk, .junk, .junk, .junk, .junk, .junk, .junk, .junk, .junk, .junk, .junk, .junk]) (fun x => [.live [vS a.name, vI a.quant, .sl j1 (a.refs.map refP) false, .sl j2 (a.rows.map rowP) false, .sl j3 (a.cond.map nodeP) false], .live [vS b.name, vI b.quant, .sl i1 (b.refs.map refP) false, .sl i2 (b.rows.map rowP) false, .sl i3 (b.cond.map nodeP) false], .live [.val (.string { data := #[] }), vI 0, .sl 0 [] false, .sl 0 [] false, .sl 0 [] false], .live [vS a.name, vI a.quant, .sl j1 (a.refs.map refP) false, rowsV (a.rows.take x), .sl j3 (a.cond.map nodeP) false]]) (fun x => x ≤ a.rows.length) (fun x => a.rows.length - x) 0 ?_ ?_ ?_
   ·simp only [RG0, RG1, Nat.reduceAdd, ltL, PV.lt, Blk.lt, Nat.reduceLT, Nat.reduceLeDiff, Wk_rfl, ltL_vI, wk_sl, List.take_zero, rowsV_0]; try exact .inl rfl
   ·omega
   intro x hP
   have hx1 : x ≤ a.rows.length := hP
   by_cases hx : x < a.rows.length
   ·have hx' : (x : Int) < a.rows.length := by omega
    have hput := put_take hasa hx
    have hpk := putK_take hasa hx
    obtain ⟨jx, hX, hjx⟩ := rowsV_eq (a.rows.take x)
    have hpe := fun o x => putE (o := o) hjx x
    have hj : j2 = 50 := k2.resolve_right (by intro e; rw [e] at hx; simp at hx)
    subst hj
    generalize hR : a.rows.getD x noRow = r at *
    simp -implicitDefEqProofs (maxSteps := 2000000) only [R0, R1, R2, R3, R4, R5, R6, R7, R8, R9, R10, R11, R12, R13, R14, R15, R16, PV.strip, stripL, PV.noref, ri, feedL, feeds, Nat.reduceBEq, Array.toList, ↓reduceIte, forall_const, implies_true, Nat.reduceEqDiff, reduceCtorEq, alP, bxP, bsP, ifP, quiet, riD, bs_l, PV.isRef, plainCell, norefL, PV.scalar, scalarL, PV.cells, PV.solid, PV.one, PV.free, freeL, fillP, splice, Nat.reduceAdd, Nat.reduceMul, Nat.reduceSub, Nat.reduceLeDiff, Nat.reduceLT, Int.reduceToNat, Int.reduceEq, Int.reduceLT, Int.reduceLE, Int.reduceNeg, E0_vc, vaN, PV.avoid, avoidL, Nat.reduceGT, W7, D7, gd_row, rowP, PV.cells, tk48, tk48a, len48, hl48, strip_vI, List.length_map, Int.toNat_natCast, hx', hR, hX, hpe, RB0]
    have hne : ¬ a.rows.take (x + 1) = [] := by rw [← hput]; exact (putL_law _ _).2.2.2
    refine ⟨.inl (by decide), by omega, by rw [List.length_take]; omega, fun h => by rw [hpk] at h; omega, by unfold inI64; omega, x + 1, by omega, by omega, ?_⟩
    simp only [RG0, RG1, Nat.reduceAdd, ltL, PV.lt, Blk.lt, Nat.reduceLT, Nat.reduceLeDiff, Wk_rfl, ltL_vI, wk_sl, hput, rowsV_ne hne] <;> omega
   have hx' : ¬ (x : Int) < a.rows.length := by omega
   have hxl2 : a.rows.take x = a.rows := List.take_of_length_le (by omega)
   simp -implicitDefEqProofs (maxSteps := 2000000) only [R0, R1, R2, R3, R4, R5, R6, R7, R8, R9, R10, R11, R12, R13, R14, R15, R16, PV.strip, stripL, PV.noref, ri, feedL, feeds, Nat.reduceBEq, Array.toList, ↓reduceIte, forall_const, implies_true, Nat.reduceEqDiff, reduceCtorEq, alP, bxP, bsP, ifP, quiet, riD, bs_l, PV.isRef, plainCell, norefL, PV.scalar, scalarL, PV.cells, PV.solid, PV.one, PV.free, freeL, fillP, splice, Nat.reduceAdd, Nat.reduceMul, Nat.reduceSub, Nat.reduceLeDiff, Nat.reduceLT, Int.reduceToNat, Int.reduceEq, Int.reduceLT, Int.reduceLE, Int.reduceNeg, E0_vc, vaN, PV.avoid, avoidL, Nat.reduceGT, W7, D7, List.length_map, hx', hxl2, RB0]
   refine loopB_by (fun x : Nat => [.junk, .junk, .junk, .ptr 1 0, .ptr 2 0, .junk, .junk, .junk, .junk, .junk, .ptr 3 0, .junk, vI x, .junk, .junk, .junk, .junk, .junk, .junk, .junk, .junk, .junk, .junk, .junk, .junk, .junk, .junk, .junk, .junk, .junk, .junk, .junk, .junk, .junk, .junk, .junk, .junk, .junk, .junk, .junk, .junk, .junk, .junk, .junk, .junk, .junk, .junk, .junk, .junk, .junk, .junk, .junk, .junk, .junk, .junk, .junk, .junk, .junk, .junk, .junk, .junk, .junk, .junk, .junk, .junk, .junk, .junk, .junk, .junk, .junk, .junk, .junk, .junk, .junk, .junk, .junk, .junk, .junk, .junk, .junk, .junk, .junk, .junk, .junk, .junk, .junk, .junk, .junk, .junk, .junk, .junk, .junk, .junk, .junk, .junk, .junk, .junk, .junk, .junk, .junk, .junk, .junk, .junk, .junk, .junk, .junk, .junk, .junk, .junk, .junk, .junk, .junk, .junk, .junk, .junk, .junk, .junk, .junk, .junk, .junk, .junk, .junk, .junk, .junk, .junk, .junk, .junk, .junk, .junk, .junk, .junk, .junk, .junk, .junk, .junk, .junk, .junk, .junk, .junk, .junk, .junk, .junk, .junk, .junk, .junk, .junk, .junk, .junk, .junk, .junk, .junk, .junk, .junk, .junk, .junk, .junk, .junk]) (fun x => [.live [vS a.name, vI a.quant, .sl j1 (a.refs.map refP) false, .sl j2 (a.rows.map rowP) false, .sl j3 (a.cond.map nodeP) false], .live [vS b.name, vI b.quant, .sl i1 (b.refs.map refP) false, .sl i2 (b.rows.map rowP) false, .sl i3 (b.cond.map nodeP) false], .live [.val (.string { data := #[] }), vI 0, .sl 0 [] false, .sl 0 [] false, .sl 0 [] false], .live [vS a.name, vI a.quant, .sl j1 (a.refs.map refP) false, rowsV (mrgR a.rows (b.rows.take x)), .sl j3 (a.cond.map nodeP) false]]) (fun x => x ≤ b.rows.length) (fun x => b.rows.length - x) 0 ?_ ?_ ?_
   ·simp only [RG0, RG1, Nat.reduceAdd, ltL, PV.lt, Blk.lt, Nat.reduceLT, Nat.reduceLeDiff, Wk_rfl, ltL_vI, wk_sl, List.take_zero, mrgR_end]
   ·omega
   intro y hP
   have hy3 : y ≤ b.rows.length := hP
   by_cases hyy : y < b.rows.length
   ·have hy4 : (y : Int) < b.rows.length := by omega
    have hput := put_mrg (a := a.rows) hasb hyy
    obtain ⟨jx, hX, hjx⟩ := rowsV_eq (mrgR a.rows (b.rows.take y))
    have hpe := fun o x => putE (o := o) hjx x
    have hj : i2 = 50 := m2.resolve_right (by intro e; rw [e] at hyy; simp at hyy)
    subst hj
    have hask := mrg_ask (a := a.rows) pa pb hasb hyy (by omega) (by omega)
    generalize hR : b.rows.getD y noRow = r at *
    simp -implicitDefEqProofs (maxSteps := 2000000) only [R0, R1, R2, R3, R4, R5, R6, R7, R8, R9, R10, R11, R12, R13, R14, R15, R16, PV.strip, stripL, PV.noref, ri, feedL, feeds, Nat.reduceBEq, Array.toList, ↓reduceIte, forall_const, implies_true, Nat.reduceEqDiff, reduceCtorEq, alP, bxP, bsP, ifP, quiet, riD, bs_l, PV.isRef, plainCell, norefL, PV.scalar, scalarL, PV.cells, PV.solid, PV.one, PV.free, freeL, fillP, splice, Nat.reduceAdd, Nat.reduceMul, Nat.reduceSub, Nat.reduceLeDiff, Nat.reduceLT, Int.reduceToNat, Int.reduceEq, Int.reduceLT, Int.reduceLE, Int.reduceNeg, E0_vc, vaN, PV.avoid, avoidL, Nat.reduceGT, W7, D7, gd_row, rowP, PV.cells, tk48, tk48a, len48, hl48, strip_vI, List.length_map, Int.toNat_natCast, hy4, hR, hX, hpe, RB0]
    have hne : ¬ mrgR a.rows (b.rows.take (y + 1)) = [] := by rw [← hput]; exact (putL_law _ _).2.2.2
    refine ⟨.inl (by decide), by omega, hask.1, fun h => hask.2 _ h, by unfold inI64; omega, y + 1, by omega, by omega, ?_⟩
    simp only [RG0, RG1, Nat.reduceAdd, ltL, PV.lt, Blk.lt, Nat.reduceLT, Nat.reduceLeDiff, Wk_rfl, ltL_vI, wk_sl, hput, rowsV_ne hne] <;> omega
   have hy4 : ¬ (y : Int) < b.rows.length := by omega
   have hyl2 : b.rows.take y = b.rows := List.take_of_length_le (by omega)
   simp -implicitDefEqProofs (maxSteps := 2000000) only [R0, R1, R2, R3, R4, R5, R6, R7, R8, R9, R10, R11, R12, R13, R14, R15, R16, PV.strip, stripL, PV.noref, ri, feedL, feeds, Nat.reduceBEq, Array.toList, ↓reduceIte, forall_const, implies_true, Nat.reduceEqDiff, reduceCtorEq, alP, bxP, bsP, ifP, quiet, riD, bs_l, PV.isRef, plainCell, norefL, PV.scalar, scalarL, PV.cells, PV.solid, PV.one, PV.free, freeL, fillP, splice, Nat.reduceAdd, Nat.reduceMul, Nat.reduceSub, Nat.reduceLeDiff, Nat.reduceLT, Int.reduceToNat, Int.reduceEq, Int.reduceLT, Int.reduceLE, Int.reduceNeg, E0_vc, vaN, PV.avoid, avoidL, Nat.reduceGT, W7, D7, List.length_map, hy4, hyl2, hans, rb2, rc_s, lq_t, lq_f, hll4, RB0]
   obtain ⟨jm, hM, _⟩ := rowsV_eq (mrgR a.rows b.rows)
   rw [hM]
   exact ⟨rfl, by simp [PV.noref, norefL_eq, nr_row]⟩
  ·have hbl : 0 < (b.rows.length : Int) := by
    have := List.length_pos_iff.2 hb0
    omega
   have hans : rAnsV (.agg [vS a.name, vI a.quant, .sl j1 (a.refs.map refP) o1, .sl j2 (a.rows.map rowP) o2, .sl j3 (a.cond.map nodeP) o3]) (.agg [vS b.name, vI b.quant, .sl i1 (b.refs.map refP) a1, .sl i2 (b.rows.map rowP) a2, .sl i3 (b.cond.map nodeP) a3]) a b = .tuple [.agg [vS a.name, vI a.quant, .sl i1 (b.refs.map refP) false, rowsV (mrgR a.rows b.rows), .sl j3 (a.cond.map nodeP) false], vI 0] := by
    unfold rAnsV; rw [if_pos hadd, if_neg hb0]; rfl
   simp -implicitDefEqProofs (maxSteps := 2000000) only [R0, R1, R2, R3, R4, R5, R6, R7, R8, R9, R10, R11, R12, R13, R14, R15, R16, PV.strip, stripL, PV.noref, ri, feedL, feeds, Nat.reduceBEq, Array.toList, ↓reduceIte, forall_const, implies_true, Nat.reduceEqDiff, reduceCtorEq, alP, bxP, bsP, ifP, quiet, riD, bs_l, PV.isRef, plainCell, norefL, PV.scalar, scalarL, PV.cells, PV.solid, PV.one, PV.free, freeL, fillP, splice, Nat.reduceAdd, Nat.reduceMul, Nat.reduceSub, Nat.reduceLeDiff, Nat.reduceLT, Int.reduceToNat, Int.reduceEq, Int.reduceLT, Int.reduceLE, Int.reduceNeg, E0_vc, vaN, PV.avoid, avoidL, Nat.reduceGT, W7, D7, List.length_map, hy', hal, hbl, RB0]
   refine loopB_by (fun x : Nat => [.junk, .junk, .ptr 0 0, .ptr 1 0, .ptr 2 0, .junk, .junk, .junk, .junk, .junk, .ptr 3 0, vI x, .junk, .junk, .junk, .junk, .junk, .junk, .junk, .junk, .junk, .junk, .junk, .junk, .junk, .junk, .junk, .junk, .junk, .junk, .junk, .junk, .junk, .junk, .junk, .junk, .junk, .junk, .junk, .junk, .junk, .junk, .junk, .junk, .junk, .junk, .junk, .junk, .junk, .junk, .junk, .junk, .junk, .junk, .junk, .junk, .junk, .junk, .junk, .junk, .junk, .junk, .junk, .junk, .junk, .junk, .junk, .junk, .junk, .junk, .junk, .junk, .junk, .junk, .junk, .junk, .junk, .junk, .junk, .junk, .junk, .junk, .junk, .junk, .junk, .junk, .junk, .junk, .junk, .junk, .junk, .junk, .junk, .junk, .junk, .junk, .junk, .junk, .junk, .junk, .junk, .junk, .junk, .junk, .junk, .junk, .junk, .junk, .junk, .junk, .junk, .junk, .junk, .junk, .junk, .junk, .junk, .junk, .junk, .junk, .junk, .junk, .junk, .junk, .junk, .junk, .junk, .junk, .junk, .junk, .junk, .junk, .junk, .junk, .junk, .junk, .junk, .junk, .junk, .junk, .junk, .junk, .junk, .junk, .junk, .junk, .junk, .junk, .junk, .junk, .junk, .junk, .junk, .junk, .junk, .junk, .junk]) (fun x => [.live [vS a.name, vI a.quant, .sl j1 (a.refs.map refP) false, .sl j2 (a.rows.map rowP) false, .sl j3 (a.cond.map nodeP) false], .live [vS b.name, vI b.quant, .sl i1 (b.refs.map refP) false, .sl i2 (b.rows.map rowP) false, .sl i3 (b.cond.map nodeP) false], .live [.val (.string { data := #[] }), vI 0, .sl 0 [] false, .sl 0 [] false, .sl 0 [] false], .live [vS a.name, vI a.quant, .sl i1 (b.refs.map refP) false, rowsV (a.rows.take x), .sl j3 (a.cond.map nodeP) false]]) (fun x => x ≤ a.rows.length) (fun x => a.rows.length - x) 0 ?_ ?_ ?_
   ·simp only [RG0, RG1, Nat.reduceAdd, ltL, PV.lt, Blk.lt, Nat.reduceLT, Nat.reduceLeDiff, Wk_rfl, ltL_vI, wk_sl, List.take_zero, rowsV_0]; try exact .inl rfl
   ·omega
   intro x hP
   have hx1 : x ≤ a.rows.length := hP
   by_cases hx : x < a.rows.length
   ·have hx' : (x : Int) < a.rows.length := by omega
    have hput := put_take hasa hx
    have hpk := putK_take hasa hx
    obtain ⟨jx, hX, hjx⟩ := rowsV_eq (a.rows.take x)
    have hpe := fun o x => putE (o := o) hjx x
    have hj : j2 = 50 := k2.resolve_right (by intro e; rw [e] at hx; simp at hx)
    subst hj
    generalize hR : a.rows.getD x noRow = r at *
    simp -implicitDefEqProofs (maxSteps := 2000000) only [R0, R1, R2, R3, R4, R5, R6, R7, R8, R9, R10, R11, R12, R13, R14, R15, R16, PV.strip, stripL, PV.noref, ri, feedL, feeds, Nat.reduceBEq, Array.toList, ↓reduceIte, forall_const, implies_true, Nat.reduceEqDiff, reduceCtorEq, alP, bxP, bsP, ifP, quiet, riD, bs_l, PV.isRef, plainCell, norefL, PV.scalar, scalarL, PV.cells, PV.solid, PV.one, PV.free, freeL, fillP, splice, Nat.reduceAdd, Nat.reduceMul, Nat.reduceSub, Nat.reduceLeDiff, Nat.reduceLT, Int.reduceToNat, Int.reduceEq, Int.reduceLT, Int.reduceLE, Int.reduceNeg, E0_vc, vaN, PV.avoid, avoidL, Nat.reduceGT, W7, D7, gd_row, rowP, PV.cells, tk48, tk48a, len48, hl48, strip_vI, List.length_map, Int.toNat_natCast, hx', hR, hX, hpe, RB0]
    have hne : ¬ a.rows.take (x + 1) = [] := by rw [← hput]; exact (putL_law _ _).2.2.2
    refine ⟨.inl (by decide), by omega, by rw [List.length_take]; omega, fun h => by rw [hpk] at h; omega, by unfold inI64; omega, x + 1, by omega, by omega, ?_⟩
    simp only [RG0, RG1, Nat.reduceAdd, ltL, PV.lt, Blk.lt, Nat.reduceLT, Nat.reduceLeDiff, Wk_rfl, ltL_vI, wk_sl, hput, rowsV_ne hne] <;> omega
   have hx' : ¬ (x : Int) < a.rows.length := by omega
   have hxl2 : a.rows.take x = a.rows := List.take_of_length_le (by omega)
   simp -implicitDefEqProofs (maxSteps := 2000000) only [R0, R1, R2, R3, R4, R5, R6, R7, R8, R9, R10, R11, R12, R13, R14, R15, R16, PV.strip, stripL, PV.noref, ri, feedL, feeds, Nat.reduceBEq, Array.toList, ↓reduceIte, forall_const, implies_true, Nat.reduceEqDiff, reduceCtorEq, alP, bxP, bsP, ifP, quiet, riD, bs_l, PV.isRef, plainCell, norefL, PV.scalar, scalarL, PV.cells, PV.solid, PV.one, PV.free, freeL, fillP, splice, Nat.reduceAdd, Nat.reduceMul, Nat.reduceSub, Nat.reduceLeDiff, Nat.reduceLT, Int.reduceToNat, Int.reduceEq, Int.reduceLT, Int.reduceLE, Int.reduceNeg, E0_vc, vaN, PV.avoid, avoidL, Nat.reduceGT, W7, D7, List.length_map, hx', hxl2, RB0]
   refine loopB_by (fun x : Nat => [.junk, .junk, .junk, .ptr 1 0, .ptr 2 0, .junk, .junk, .junk, .junk, .junk, .ptr 3 0, .junk, vI x, .junk, .junk, .junk, .junk, .junk, .junk, .junk, .junk, .junk, .junk, .junk, .junk, .junk, .junk, .junk, .junk, .junk, .junk, .junk, .junk, .junk, .junk, .junk, .junk, .junk, .junk, .junk, .junk, .junk, .junk, .junk, .junk, .junk, .junk, .junk, .junk, .junk, .junk, .junk, .junk, .junk, .junk, .junk, .junk, .junk, .junk, .junk, .junk, .junk, .junk, .junk, .junk, .junk, .junk, .junk, .junk, .junk, .junk, .junk, .junk, .junk, .junk, .junk, .junk, .junk, .junk, .junk, .junk, .junk, .junk, .junk, .junk, .junk, .junk, .junk, .junk, .junk, .junk, .junk, .junk, .junk, .junk, .junk, .junk, .junk, .junk, .junk, .junk, .junk, .junk, .junk, .junk, .junk, .junk, .junk, .junk, .junk, .junk, .junk, .junk, .junk, .junk, .junk, .junk, .junk, .junk, .junk, .junk, .junk, .junk, .junk, .junk, .junk, .junk, .junk, .junk, .junk, .junk, .junk, .junk, .junk, .junk, .junk, .junk, .junk, .junk, .junk, .junk, .junk, .junk, .junk, .junk, .junk, .junk, .junk, .junk, .junk, .junk, .junk, .junk, .junk, .junk, .junk, .junk]) (fun x => [.live [vS a.name, vI a.quant, .sl j1 (a.refs.map refP) false, .sl j2 (a.rows.map rowP) false, .sl j3 (a.cond.map nodeP) false], .live [vS b.name, vI b.quant, .sl i1 (b.refs.map refP) false, .sl i2 (b.rows.map rowP) false, .sl i3 (b.cond.map nodeP) false], .live [.val (.string { data := #[] }), vI 0, .sl 0 [] false, .sl 0 [] false, .sl 0 [] false], .live [vS a.name, vI a.quant, .sl i1 (b.refs.map refP) false, rowsV (mrgR a.rows (b.rows.take x)), .sl j3 (a.cond.map nodeP) false]]) (fun x => x ≤ b.rows.length) (fun x => b.rows.length - x) 0 ?_ ?_ ?_
   ·simp only [RG0, RG1, Nat.reduceAdd, ltL, PV.lt, Blk.lt, Nat.reduceLT, Nat.reduceLeDiff, Wk_rfl, ltL_vI, wk_sl, List.take_zero, mrgR_end]
   ·omega
   intro y hP
   have hy3 : y ≤ b.rows.length := hP
   by_cases hyy : y < b.rows.length
   ·have hy4 : (y : Int) < b.rows.length := by omega
    have hput := put_mrg (a := a.rows) hasb hyy
    obtain ⟨jx, hX, hjx⟩ := rowsV_eq (mrgR a.rows (b.rows.take y))
    have hpe := fun o x => putE (o := o) hjx x
    have hj : i2 = 50 := m2.resolve_right (by intro e; rw [e] at hyy; simp at hyy)
    subst hj
    have hask := mrg_ask (a := a.rows) pa pb hasb hyy (by omega) (by omega)
    generalize hR : b.rows.getD y noRow = r at *
    simp -implicitDefEqProofs (maxSteps := 2000000) only [R0, R1, R2, R3, R4, R5, R6, R7, R8, R9, R10, R11, R12, R13, R14, R15, R16, PV.strip, stripL, PV.noref, ri, feedL, feeds, Nat.reduceBEq, Array.toList, ↓reduceIte, forall_const, implies_true, Nat.reduceEqDiff, reduceCtorEq, alP, bxP, bsP, ifP, quiet, riD, bs_l, PV.isRef, plainCell, norefL, PV.scalar, scalarL, PV.cells, PV.solid, PV.one, PV.free, freeL, fillP, splice, Nat.reduceAdd, Nat.reduceMul, Nat.reduceSub, Nat.reduceLeDiff, Nat.reduceLT, Int.reduceToNat, Int.reduceEq, Int.reduceLT, Int.reduceLE, Int.reduceNeg, E0_vc, vaN, PV.avoid, avoidL, Nat.reduceGT, W7, D7, gd_row, rowP, PV.cells, tk48, tk48a, len48, hl48, strip_vI, List.length_map, Int.toNat_natCast, hy4, hR, hX, hpe, RB0]
    have hne : ¬ mrgR a.rows (b.rows.take (y + 1)) = [] := by rw [← hput]; exact (putL_law _ _).2.2.2
    refine ⟨.inl (by decide), by omega, hask.1, fun h => hask.2 _ h, by unfold inI64; omega, y + 1, by omega, by omega, ?_⟩
    simp only [RG0, RG1, Nat.reduceAdd, ltL, PV.lt, Blk.lt, Nat.reduceLT, Nat.reduceLeDiff, Wk_rfl, ltL_vI, wk_sl, hput, rowsV_ne hne] <;> omega
   have hy4 : ¬ (y : Int) < b.rows.length := by omega
   have hyl2 : b.rows.take y = b.rows := List.take_of_length_le (by omega)
   simp -implicitDefEqProofs (maxSteps := 2000000) only [R0, R1, R2, R3, R4, R5, R6, R7, R8, R9, R10, R11, R12, R13, R14, R15, R16, PV.strip, stripL, PV.noref, ri, feedL, feeds, Nat.reduceBEq, Array.toList, ↓reduceIte, forall_const, implies_true, Nat.reduceEqDiff, reduceCtorEq, alP, bxP, bsP, ifP, quiet, riD, bs_l, PV.isRef, plainCell, norefL, PV.scalar, scalarL, PV.cells, PV.solid, PV.one, PV.free, freeL, fillP, splice, Nat.reduceAdd, Nat.reduceMul, Nat.reduceSub, Nat.reduceLeDiff, Nat.reduceLT, Int.reduceToNat, Int.reduceEq, Int.reduceLT, Int.reduceLE, Int.reduceNeg, E0_vc, vaN, PV.avoid, avoidL, Nat.reduceGT, W7, D7, List.length_map, hy4, hyl2, hans, rb2, rc_s, lq_t, lq_f, hll4, RB0]
   obtain ⟨jm, hM, _⟩ := rowsV_eq (mrgR a.rows b.rows)
   rw [hM]
   exact ⟨rfl, by simp [PV.noref, norefL_eq, nr_row]⟩
end Go.Ve.H
end
section
set_option maxRecDepth 10000
set_option maxHeartbeats 8000000
namespace Go.Ve.H
open Go Go.Proofs Go.Ve
def clnF (k : Nat) : List PV → Option (List Prop × PV)
 | [.slt j xs (_ :: _)] => if j = k then some ([xs.length ≤ 100000000], .sl k xs true) else none
 | _ => none
theorem clnF_inv {k : Nat} {args : List PV} {x : List Prop × PV} (h : clnF k args = some x) : ∃ xs z zs, args = [.slt k xs (z :: zs)] ∧ x = ([xs.length ≤ 100000000], .sl k xs true) := by
 unfold clnF at h
 split at h
 ·split at h
  ·rename_i hj
   subst hj
   injection h with h
   exact ⟨_, _, _, rfl, h.symm⟩
  ·cases h
 ·cases h
def cloneRF := clnF 2
def cloneCF := clnF 6
theorem cloneRE (xs zs : List PV) (z : PV) : cloneRF [.slt 2 xs (z :: zs)] = some ([xs.length ≤ 100000000], .sl 2 xs true) := rfl
theorem cloneCE (xs zs : List PV) (z : PV) : cloneCF [.slt 6 xs (z :: zs)] = some ([xs.length ≤ 100000000], .sl 6 xs true) := rfl
theorem rm24 {n b : Nat} (h : n ≤ 100000000) (hb : b ≤ 400) : roomy n b = true := by
 unfold roomy
 have h1 : n * (b + 1) ≤ 100000000 * 401 := Nat.mul_le_mul h (by omega)
 exact decide_eq_true (by omega)
theorem und22 : Try.prog.underlying 22 = some (.slice 39) := by kernel_rfl
theorem und25 : Try.prog.underlying 25 = some (.slice 46) := by kernel_rfl
theorem cloneR_ok : Sound Try.prog G0 16 (conT (CB.fn cloneRF).toCon) := by
 refine fn_of DN_ok mixed true Try.func16 (by decide) rfl _ ?_
 intro args ps r hq hp
 obtain ⟨xs, z, zs, rfl, hx⟩ := clnF_inv hq
 obtain ⟨rfl, rfl⟩ := Prod.mk.inj hx
 have hz := hp (xs.length ≤ 100000000) (by simp)
 refine ⟨rfl, ?_⟩
 simp only [awpBFn, Try.ntmps16, List.length_cons, List.length_nil, Nat.reduceAdd, Nat.reduceSub, List.replicate_succ, List.replicate_zero, List.cons_append, List.nil_append, List.map_cons, List.map_nil]
 have hbn := fun x y xs z zs o => bs_n und22 x y 2 xs zs z o
 simp -implicitDefEqProofs (maxSteps := 2000000) only [R0, R1, R2, R3, R4, R5, R6, R7, R8, R9, R10, R11, R12, R13, R14, R15, R16, PV.strip, stripL, PV.noref, ri, feedL, feeds, Nat.reduceBEq, Array.toList, ↓reduceIte, forall_const, implies_true, Nat.reduceEqDiff, reduceCtorEq, alP, bxP, bsP, ifP, quiet, riD, bs_l, PV.isRef, plainCell, norefL, PV.scalar, scalarL, PV.cells, PV.solid, PV.one, PV.free, freeL, fillP, splice, Nat.reduceAdd, Nat.reduceMul, Nat.reduceSub, Nat.reduceLeDiff, Nat.reduceLT, Int.reduceToNat, Int.reduceEq, Int.reduceLT, Int.reduceLE, Int.reduceNeg, E0_vc, vaN, PV.avoid, avoidL, Nat.reduceGT, Try.results16, Try.underlying22, sz39, zs39, by39, bb_n, hbn, RB0]
 exact rm24 hz (by omega)
theorem cloneC_ok : Sound Try.prog G0 15 (conT (CB.fn cloneCF).toCon) := by
 refine fn_of DN_ok mixed true Try.func15 (by decide) rfl _ ?_
 intro args ps r hq hp
 obtain ⟨xs, z, zs, rfl, hx⟩ := clnF_inv hq
 obtain ⟨rfl, rfl⟩ := Prod.mk.inj hx
 have hz := hp (xs.length ≤ 100000000) (by simp)
 refine ⟨rfl, ?_⟩
 simp only [awpBFn, Try.ntmps15, List.length_cons, List.length_nil, Nat.reduceAdd, Nat.reduceSub, List.replicate_succ, List.replicate_zero, List.cons_append, List.nil_append, List.map_cons, List.map_nil]
 have hbn := fun x y xs z zs o => bs_n und25 x y 6 xs zs z o
 simp -implicitDefEqProofs (maxSteps := 2000000) only [R0, R1, R2, R3, R4, R5, R6, R7, R8, R9, R10, R11, R12, R13, R14, R15, R16, PV.strip, stripL, PV.noref, ri, feedL, feeds, Nat.reduceBEq, Array.toList, ↓reduceIte, forall_const, implies_true, Nat.reduceEqDiff, reduceCtorEq, alP, bxP, bsP, ifP, quiet, riD, bs_l, PV.isRef, plainCell, norefL, PV.scalar, scalarL, PV.cells, PV.solid, PV.one, PV.free, freeL, fillP, splice, Nat.reduceAdd, Nat.reduceMul, Nat.reduceSub, Nat.reduceLeDiff, Nat.reduceLT, Int.reduceToNat, Int.reduceEq, Int.reduceLT, Int.reduceLE, Int.reduceNeg, E0_vc, vaN, PV.avoid, avoidL, Nat.reduceGT, Try.results15, Try.underlying25, sz46, zs46, by46, bb_n, hbn, RB0]
 exact rm24 hz (by omega)
end Go.Ve.H
end
