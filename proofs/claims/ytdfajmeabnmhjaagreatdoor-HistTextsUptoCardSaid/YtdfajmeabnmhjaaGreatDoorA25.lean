/- weirlaw30.HistTexts: part of the proof (a value semantics for the model's code, and the functions told by it). -/
import Derived.Test.YtdfajmeabnmhjaaGreatDoorA24
import Derived.Test.YtdfajmeabnmhjaaGreatDoorProg
import Derived.Lib.Strings
import Derived.Lib.Slices
import Derived.Lib.Walk
import Derived.Lib.Builder
import Derived.Lib.AppendStr
import Derived.Lib.UnsafeStr
import Derived.WalkKit
import Derived.Laws.Externs
import Derived.KernelRfl
set_option linter.unusedSimpArgs false
set_option linter.unusedVariables false
set_option linter.deprecated false
set_option linter.unusedSectionVars false
set_option linter.defProp false
section
set_option maxRecDepth 10000
set_option maxHeartbeats 8000000
namespace Go.Ve.H
open Go Go.Proofs Go.Ve
def brB (b : Bool) (s : ByteArray) : ByteArray := if b = true then ⟨#[40]⟩ ++ s ++ ⟨#[41]⟩ else s
def textN (c : List Node) : Nat → Int → ByteArray
 | 0, _ => ⟨#[]⟩
 | k + 1, i => match c[i.toNat]? with
  | none => ⟨#[]⟩
  | some n =>
   if n.op = 1 then ⟨#[116, 114, 117, 101]⟩ else if n.op = 2 then refB n.ref ++ ⟨#[61]⟩ ++ itoaB n.val
   else if n.op = 3 then ⟨#[126]⟩ ++ brB (brack n.op (ndOp c n.a) false) (textN c k n.a)
   else if n.op = 4 then brB (brack n.op (ndOp c n.a) false) (textN c k n.a) ++ ⟨#[32, 47, 92, 32]⟩ ++ brB (brack n.op (ndOp c n.b) true) (textN c k n.b)
   else if n.op = 5 then brB (brack n.op (ndOp c n.a) false) (textN c k n.a) ++ ⟨#[32, 92, 47, 32]⟩ ++ brB (brack n.op (ndOp c n.b) true) (textN c k n.b)
   else ⟨#[]⟩
theorem textN_fuel {c : List Node} (hw : wfC c) : ∀ (k : Nat) (i : Nat), i < k → textN c k i = textN c (i + 1) i
 | 0, _, h => by omega
 | k + 1, i, h => by
  have ih := textN_fuel hw k
  simp only [textN]
  rw [show ((i : Int)).toNat = i from rfl]
  cases hc : c[i]? with
  | none => rfl
  | some n =>
   have hn := hw i n hc
   have e : ∀ x : Int, 0 ≤ x → x < i → textN c k x = textN c i x := by
    intro x h0 h1
    obtain ⟨m, rfl⟩ := Int.eq_ofNat_of_zero_le h0
    rw [ih m (by omega)]
    exact (textN_fuel hw i m (by omega)).symm
   simp only
   by_cases h3 : n.op = 3
   ·simp only [if_pos h3, e _ (hn.1 h3).1 (hn.1 h3).2]
   ·by_cases h4 : n.op = 4 ∨ n.op = 5
    ·simp only [if_neg h3, e _ (hn.2 h4).1.1 (hn.2 h4).1.2, e _ (hn.2 h4).2.1 (hn.2 h4).2.2]
    ·simp only [if_neg h3, if_neg (show ¬ n.op = 4 from fun h => h4 (.inl h)), if_neg (show ¬ n.op = 5 from fun h => h4 (.inr h))]
termination_by k i => k
def textD (c : List Node) (i : Int) : ByteArray := textN c (i.toNat + 1) i
def partT (c : List Node) (op i : Int) (s : Bool) : ByteArray := brB (brack op (ndOp c i) s) (textD c i)
theorem textD_eq {c : List Node} {i : Int} (hw : wfC c) (h0 : 0 ≤ i) (h1 : i < c.length) : textD c i =
  let n := c.getD i.toNat noNode
  if n.op = 1 then ⟨#[116, 114, 117, 101]⟩ else if n.op = 2 then refB n.ref ++ ⟨#[61]⟩ ++ itoaB n.val
  else if n.op = 3 then ⟨#[126]⟩ ++ partT c n.op n.a false
  else if n.op = 4 then partT c n.op n.a false ++ ⟨#[32, 47, 92, 32]⟩ ++ partT c n.op n.b true
  else if n.op = 5 then partT c n.op n.a false ++ ⟨#[32, 92, 47, 32]⟩ ++ partT c n.op n.b true else ⟨#[]⟩ := by
 have hn := hw i.toNat _ (nd_at h0 h1)
 have e : ∀ x : Int, 0 ≤ x → x < (i.toNat : Int) → textN c i.toNat x = textD c x := by
  intro x a b
  obtain ⟨m, rfl⟩ := Int.eq_ofNat_of_zero_le a
  exact textN_fuel hw i.toNat m (by omega)
 unfold textD
 simp only [textN, nd_at h0 h1]
 by_cases h3 : (c.getD i.toNat noNode).op = 3
 ·simp only [if_pos h3, e _ (hn.1 h3).1 (hn.1 h3).2]; rfl
 ·by_cases h4 : (c.getD i.toNat noNode).op = 4 ∨ (c.getD i.toNat noNode).op = 5
  ·simp only [if_neg h3, e _ (hn.2 h4).1.1 (hn.2 h4).1.2, e _ (hn.2 h4).2.1 (hn.2 h4).2.2]; rfl
  ·simp only [if_neg h3, if_neg (show ¬ (c.getD i.toNat noNode).op = 4 from fun h => h4 (.inl h)), if_neg (show ¬ (c.getD i.toNat noNode).op = 5 from fun h => h4 (.inr h))]
theorem partT_size (c : List Node) (op i : Int) (s : Bool) : (textD c i).size ≤ (partT c op i s).size ∧ (partT c op i s).size ≤ (textD c i).size + 2 := by
 have z1 : (⟨#[40]⟩ : ByteArray).size = 1 := rfl
 have z2 : (⟨#[41]⟩ : ByteArray).size = 1 := rfl
 unfold partT brB
 split
 ·simp only [ByteArray.size_append, z1, z2]; omega
 ·omega
def szT (c : List Node) : Prop := ∀ n ∈ c, inI64 n.ref.t ∧ inI64 n.val ∧ n.ref.n.size ≤ 1073741824
theorem nd_mem {c : List Node} {i : Int} (h0 : 0 ≤ i) (h1 : i < c.length) : c.getD i.toNat noNode ∈ c := List.mem_of_getElem? (nd_at h0 h1)
theorem text_run {N : Nat} {c : List Node} (hw : wfC c) (hz : szT c) (hN : ∀ n ∈ c, n.ref.n.size ≤ N) : ∀ (d : List Node) (i : Nat) (st : List Int), c.drop i = d → i ≤ c.length → runS i d st = true → topIs i st → (∀ x ∈ st, 0 ≤ x ∧ x < i) → (st.map fun x => (textD c x).size).sum ≤ i * (N + 64) → 0 < c.length →
  (textD c ((c.length : Int) - 1)).size ≤ c.length * (N + 64)
 | [], i, st, hd, hi, hr, ht, hs, hsum, h0 => by
  have : i = c.length := by
   have := List.drop_eq_nil_iff.1 hd; omega
  subst this
  simp only [runS, decide_eq_true_eq] at hr
  match st, hr with
  | [x], _ =>
   have hx : x = (c.length : Int) - 1 := by
    have : x + 1 = (c.length : Int) := ht
    omega
   subst hx
   simpa using hsum
 | n :: d, i, st, hd, hi, hr, ht, hs, hsum, h0 => by
  have hlt : i < c.length := by
   rcases Nat.lt_or_ge i c.length with h | h
   ·exact h
   ·rw [List.drop_eq_nil_of_le h] at hd; cases hd
  have hd' := List.drop_eq_getElem_cons hlt
  rw [hd] at hd'
  have hn : c[i] = n := (List.cons.inj hd').1.symm
  have hdd : c.drop (i + 1) = d := (List.cons.inj hd').2.symm
  have hg : c.getD i noNode = n := by rw [List.getD_eq_getElem?_getD, List.getElem?_eq_getElem hlt]; exact hn
  have hgz := hz n (hn ▸ List.getElem_mem hlt)
  have hgN := hN n (hn ▸ List.getElem_mem hlt)
  have htx := textD_eq hw (i := (i : Int)) (by omega) (by omega)
  simp only [Int.toNat_natCast, hg] at htx
  simp only [runS, Bool.and_eq_true] at hr
  obtain ⟨hf, hr⟩ := hr
  split at hr
  case h_2 => cases hr
  rename_i st' hst
  have hst2 := (stepS_lt (by omega) hst hs).2
  have go : ∀ r : List Int, st' = (i : Int) :: r → ((i : Int) :: r |>.map fun x => (textD c x).size).sum ≤ i * (N + 64) + (N + 64) → (textD c ((c.length : Int) - 1)).size ≤ c.length * (N + 64) := fun r e hle => by
   subst e
   have e1 : ((i : Int) + 1) = ((i + 1 : Nat) : Int) := by omega
   rw [e1] at hr
   exact text_run hw hz hN d (i + 1) ((i : Int) :: r) hdd (by omega) hr (topIs_cons i r) (fun x hx => by have := hst2 x hx; omega) (by rw [Nat.add_mul, Nat.one_mul]; exact hle) h0
  have z1 : (⟨#[116, 114, 117, 101]⟩ : ByteArray).size = 4 := rfl
  have z2 : (⟨#[61]⟩ : ByteArray).size = 1 := rfl
  have z3 : (⟨#[126]⟩ : ByteArray).size = 1 := rfl
  have z4 : (⟨#[32, 47, 92, 32]⟩ : ByteArray).size = 4 := rfl
  have z5 : (⟨#[32, 92, 47, 32]⟩ : ByteArray).size = 4 := rfl
  unfold stepS at hst
  by_cases h3 : n.op = 3
  ·rw [if_pos h3] at hst
   split at hst
   ·rename_i x r
    split at hst
    ·rename_i ha
     injection hst with hst
     refine go r hst.symm ?_
     rw [if_neg (by omega), if_neg (by omega), if_pos h3] at htx
     have hp := (partT_size c n.op n.a false).2
     simp only [List.map_cons, List.sum_cons] at hsum ⊢
     rw [htx, ByteArray.size_append, z3]
     rw [ha] at hp ⊢
     omega
    ·cases hst
   ·cases hst
  rw [if_neg h3] at hst
  by_cases h45 : n.op = 4 ∨ n.op = 5
  ·rw [if_pos h45] at hst
   split at hst
   ·rename_i y x r
    split at hst
    ·rename_i ha
     injection hst with hst
     refine go r hst.symm ?_
     have hp := (partT_size c n.op n.a false).2
     have hq := (partT_size c n.op n.b true).2
     have e : (textD c i).size = (partT c n.op n.a false).size + 4 + (partT c n.op n.b true).size := by
      rcases h45 with h4 | h5
      ·rw [if_neg (by omega), if_neg (by omega), if_neg h3, if_pos h4] at htx
       rw [htx, ByteArray.size_append, ByteArray.size_append, z4]
      ·rw [if_neg (by omega), if_neg (by omega), if_neg h3, if_neg (by omega), if_pos h5] at htx
       rw [htx, ByteArray.size_append, ByteArray.size_append, z5]
     simp only [List.map_cons, List.sum_cons] at hsum ⊢
     rw [ha.1, ha.2] at e
     rw [ha.1] at hp
     rw [ha.2] at hq
     omega
    ·cases hst
   ·cases hst
  rw [if_neg h45] at hst
  injection hst with hst
  refine go st hst.symm ?_
  simp only [List.map_cons, List.sum_cons]
  have hsz : (textD c i).size ≤ N + 64 := by
   rw [htx]
   split
   ·omega
   ·split
    ·have h1 := refB_size hgz.1
     have h2 := itoa_size hgz.2.1
     simp only [ByteArray.size_append, z2]
     omega
    ·rw [if_neg (fun h => h45 (.inl h)), if_neg (fun h => h45 (.inr h))]
     show 0 ≤ _
     omega
  omega
theorem text_sizeN {N : Nat} {c : List Node} (hm : makesC c = true) (hz : szT c) (hN : ∀ n ∈ c, n.ref.n.size ≤ N) : (textD c ((c.length : Int) - 1)).size ≤ 1024 * (N + 64) := by
 have hw := makesC_wf hm
 have hl := makesC_ne hm
 unfold makesC at hm
 simp only [Bool.and_eq_true] at hm
 have := text_run hw hz hN c 0 [] rfl (by omega) hm.2 rfl (by simp) (by simp) (by omega)
 exact Nat.le_trans this (Nat.mul_le_mul_right _ (by omega))
theorem text_size {c : List Node} (hm : makesC c = true) (hz : szT c) : (textD c ((c.length : Int) - 1)).size ≤ 1099511693312 :=
 text_sizeN (N := 1073741824) hm hz fun n hn => (hz n hn).2.2
def txAsk (c : List Node) (i : Int) (k : Nat) : List Prop := [makesC c = true, szT c, 0 ≤ i, i < c.length, i < k, (textD c i).size ≤ 1099511693312]
def rTxF (k : Nat) : List PV → Option (List Prop × PV)
 | [.sl 6 xs _, .val (.int .i64 i)] => match decL nodeD xs with
  | some c => some (txAsk c i k, vS (textD c i))
  | none => none
 | _ => none
theorem rTxE (k : Nat) (c : List Node) (o : Bool) (i : Int) : rTxF k [.sl 6 (c.map nodeP) o, .val (.int .i64 i)] = some (txAsk c i k, vS (textD c i)) := by
 simp only [rTxF, decL_map nodeD_P]
theorem rTxF_inv {k : Nat} {args : List PV} {ps : List Prop} {r : PV} (h : rTxF k args = some (ps, r)) : ∃ (c : List Node) (o : Bool) (i : Int), args = [.sl 6 (c.map nodeP) o, vI i] ∧ ps = txAsk c i k ∧ r = vS (textD c i) := by
 unfold rTxF at h
 split at h
 ·split at h
  ·rename_i c hc
   injection h with h; injection h with h1 h2
   exact ⟨c, _, _, by rw [decL_inv (fun _ _ => nodeD_inv) hc], h1.symm, h2.symm⟩
  ·cases h
 ·cases h
def rPtF (k : Nat) : List PV → Option (List Prop × PV)
 | [.sl 6 xs _, .val (.int .i64 op), .val (.int .i64 i), .val (.bool s)] => match decL nodeD xs with
  | some c => some (txAsk c i k, vS (partT c op i s))
  | none => none
 | _ => none
theorem rPtE (k : Nat) (c : List Node) (o : Bool) (op i : Int) (s : Bool) : rPtF k [.sl 6 (c.map nodeP) o, .val (.int .i64 op), .val (.int .i64 i), .val (.bool s)] = some (txAsk c i k, vS (partT c op i s)) := by
 simp only [rPtF, decL_map nodeD_P]
theorem rPtF_inv {k : Nat} {args : List PV} {ps : List Prop} {r : PV} (h : rPtF k args = some (ps, r)) : ∃ (c : List Node) (o : Bool) (op i : Int) (s : Bool), args = [.sl 6 (c.map nodeP) o, vI op, vI i, vT s] ∧ ps = txAsk c i k ∧ r = vS (partT c op i s) := by
 unfold rPtF at h
 split at h
 ·split at h
  ·rename_i c hc
   injection h with h; injection h with h1 h2
   exact ⟨c, _, _, _, _, by rw [decL_inv (fun _ _ => nodeD_inv) hc], h1.symm, h2.symm⟩
  ·cases h
 ·cases h
def D87 (k : Nat) : FuncId → Option CB
 | 66 => some (.fn (rTxF k))
 | 78 => some (.fn rBrackF)
 | _ => none
theorem tx_all {c : List Node} {i : Int} {k : Nat} (h : All (txAsk c i k)) : makesC c = true ∧ szT c ∧ 0 ≤ i ∧ i < c.length ∧ i < k ∧ (textD c i).size ≤ 1099511693312 :=
 ⟨h _ (by simp [txAsk]), h _ (by simp [txAsk]), h _ (by simp [txAsk]), h _ (by simp [txAsk]), h _ (by simp [txAsk]), h _ (by simp [txAsk])⟩
theorem rPt_step (k : Nat) (h : Sound Tryz.prog G0 66 (conT (CB.fn (rTxF k)).toCon)) : Sound Tryz.prog G0 87 (conT (CB.fn (rPtF k)).toCon) := by
 have hD : AllB E0 (D87 k) := fun g c hg => by
  unfold D87 at hg
  split at hg <;> simp at hg <;> subst hg
  ·exact h
  ·exact rBrack_ok
 refine fn_of hD mixed true Tryz.func87 (by decide) rfl _ ?_
 intro args ps r hq hp
 obtain ⟨c, o, op, i, s, rfl, rfl, rfl⟩ := rPtF_inv hq
 obtain ⟨hm, hz, h0, h1, hk, hsz⟩ := tx_all hp
 refine ⟨by simp [norefL, PV.noref, nr_map nr_node], ?_⟩
 simp only [awpBFn, Tryz.ntmps87, List.length_cons, List.length_nil, Nat.reduceAdd, Nat.reduceSub, List.replicate_succ, List.replicate_zero, List.cons_append, List.nil_append, List.map_cons, List.map_nil]
 have hE := rTxE k c
 have hop : (c.getD i.toNat noNode).op = ndOp c i := by unfold ndOp; rw [nd_at h0 h1]
 have z1 : (⟨#[40]⟩ : ByteArray).size = 1 := rfl
 have z2 : (⟨#[41]⟩ : ByteArray).size = 1 := rfl
 cases hb : brack op (ndOp c i) s with
 | true =>
  simp -implicitDefEqProofs (maxSteps := 2000000) only [R0, R1, R2, R3, R4, R5, R6, R7, R8, R9, R10, R11, R12, R13, R14, R15, R16, PV.strip, stripL, PV.noref, ri, feedL, feeds, Nat.reduceBEq, Array.toList, ↓reduceIte, forall_const, implies_true, Nat.reduceEqDiff, reduceCtorEq, alP, bxP, bsP, ifP, quiet, riD, bs_l, PV.isRef, plainCell, norefL, PV.scalar, scalarL, PV.cells, PV.solid, PV.one, PV.free, freeL, fillP, splice, Nat.reduceAdd, Nat.reduceMul, Nat.reduceSub, Nat.reduceLeDiff, Nat.reduceLT, Int.reduceToNat, Int.reduceEq, Int.reduceLT, Int.reduceLE, Int.reduceNeg, E0_vc, vaN, PV.avoid, avoidL, Nat.reduceGT, Tryz.results87, Tryz.underlying25, sz52, zd52, fa52_0, ag3, sz3, zd3, D87, rTxE, rBrackE, gd_node, nodeP, List.length_map, hE, txAsk, hop, hb, RB0]
  refine ⟨hm, hz, h0, h1, hk, hsz, ⟨h0, h1⟩, by omega, ?_, ?_⟩
  ·simp only [ByteArray.size_append, z1]; omega
  ·rw [partT, brB, if_pos hb]
 | false =>
  simp -implicitDefEqProofs (maxSteps := 2000000) only [R0, R1, R2, R3, R4, R5, R6, R7, R8, R9, R10, R11, R12, R13, R14, R15, R16, PV.strip, stripL, PV.noref, ri, feedL, feeds, Nat.reduceBEq, Array.toList, ↓reduceIte, forall_const, implies_true, Nat.reduceEqDiff, reduceCtorEq, alP, bxP, bsP, ifP, quiet, riD, bs_l, PV.isRef, plainCell, norefL, PV.scalar, scalarL, PV.cells, PV.solid, PV.one, PV.free, freeL, fillP, splice, Nat.reduceAdd, Nat.reduceMul, Nat.reduceSub, Nat.reduceLeDiff, Nat.reduceLT, Int.reduceToNat, Int.reduceEq, Int.reduceLT, Int.reduceLE, Int.reduceNeg, E0_vc, vaN, PV.avoid, avoidL, Nat.reduceGT, Tryz.results87, Tryz.underlying25, sz52, zd52, fa52_0, ag3, sz3, zd3, D87, rTxE, rBrackE, gd_node, nodeP, List.length_map, hE, txAsk, hop, hb, RB0]
  refine ⟨hm, hz, h0, h1, hk, hsz, ⟨h0, h1⟩, ?_⟩
  rw [partT, brB, if_neg (by rw [hb]; decide)]
def D66 (k : Nat) : FuncId → Option CB
 | 87 => some (.fn (rPtF k))
 | 43 => some (.fn rNumF)
 | _ => none
def W66 := And.intro @Tryz.results66 (And.intro @Tryz.underlying25 (And.intro @sz52 (And.intro @zd52 (And.intro @ag52 (And.intro @zp52 (And.intro @fa52_0 (And.intro @ag3 (And.intro @sz3 (And.intro @zd3 (And.intro @fa52_3 (And.intro @fa45_1 (And.intro @ag9 (And.intro @sz9 (And.intro @zd9 (And.intro @fa52_4 (And.intro @ag2 (And.intro @sz2 (And.intro @zd2 (And.intro @fa45_0 (And.intro @fa52_1 (And.intro @fa52_2 (And.intro @rNumE (@rPtE)))))))))))))))))))))))
theorem rTx_step (k : Nat) (h : Sound Tryz.prog G0 87 (conT (CB.fn (rPtF k)).toCon)) : Sound Tryz.prog G0 66 (conT (CB.fn (rTxF (k + 1))).toCon) := by
 have hD : AllB E0 (D66 k) := fun g c hg => by
  unfold D66 at hg
  split at hg <;> simp at hg <;> subst hg
  ·exact h
  ·exact rNum_ok
 refine fn_of hD mixed true Tryz.func66 (by decide) rfl _ ?_
 intro args ps r hq hp
 obtain ⟨c, o, i, rfl, rfl, rfl⟩ := rTxF_inv hq
 obtain ⟨hm, hz, h0, h1, hk, hsz⟩ := tx_all hp
 refine ⟨by simp [norefL, PV.noref, nr_map nr_node], ?_⟩
 simp only [awpBFn, Tryz.ntmps66, List.length_cons, List.length_nil, Nat.reduceAdd, Nat.reduceSub, List.replicate_succ, List.replicate_zero, List.cons_append, List.nil_append, List.map_cons, List.map_nil]
 have hw := makesC_wf hm
 have hE := rPtE k c
 have hn := hw i.toNat _ (nd_at h0 h1)
 have htx := textD_eq hw h0 h1
 have hnz := hz _ (nd_mem h0 h1)
 have hpa := partT_size c (c.getD i.toNat noNode).op (c.getD i.toNat noNode).a false
 have hpb := partT_size c (c.getD i.toNat noNode).op (c.getD i.toNat noNode).b true
 have z1 : (⟨#[116, 114, 117, 101]⟩ : ByteArray).size = 4 := rfl
 have z2 : (⟨#[61]⟩ : ByteArray).size = 1 := rfl
 have z3 : (⟨#[126]⟩ : ByteArray).size = 1 := rfl
 have z4 : (⟨#[32, 47, 92, 32]⟩ : ByteArray).size = 4 := rfl
 have z5 : (⟨#[32, 92, 47, 32]⟩ : ByteArray).size = 4 := rfl
 have z6 : (⟨#[58]⟩ : ByteArray).size = 1 := rfl
 simp only at htx
 by_cases o1 : (c.getD i.toNat noNode).op = 1
 ·rw [if_pos o1] at htx
  simp -implicitDefEqProofs (maxSteps := 2000000) only [R0, R1, R2, R3, R4, R5, R6, R7, R8, R9, R10, R11, R12, R13, R14, R15, R16, PV.strip, stripL, PV.noref, ri, feedL, feeds, Nat.reduceBEq, Array.toList, ↓reduceIte, forall_const, implies_true, Nat.reduceEqDiff, reduceCtorEq, alP, bxP, bsP, ifP, quiet, riD, bs_l, PV.isRef, plainCell, norefL, PV.scalar, scalarL, PV.cells, PV.solid, PV.one, PV.free, freeL, fillP, splice, Nat.reduceAdd, Nat.reduceMul, Nat.reduceSub, Nat.reduceLeDiff, Nat.reduceLT, Int.reduceToNat, Int.reduceEq, Int.reduceLT, Int.reduceLE, Int.reduceNeg, E0_vc, vaN, PV.avoid, avoidL, Nat.reduceGT, W66, D66, gd_node, nodeP, List.length_map, hE, txAsk, o1, htx, RB0]
  exact ⟨h0, h1⟩
 by_cases o2 : (c.getD i.toNat noNode).op = 2
 ·rw [if_neg o1, if_pos o2] at htx
  have hs1 := itoa_size hnz.1
  have hs2 := itoa_size hnz.2.1
  by_cases ht : 0 ≤ (c.getD i.toNat noNode).ref.t
  ·have hr : refB (c.getD i.toNat noNode).ref = itoaB (c.getD i.toNat noNode).ref.t ++ ⟨#[58]⟩ ++ (c.getD i.toNat noNode).ref.n := by rw [refB, if_neg (by omega)]
   simp -implicitDefEqProofs (maxSteps := 2000000) only [R0, R1, R2, R3, R4, R5, R6, R7, R8, R9, R10, R11, R12, R13, R14, R15, R16, PV.strip, stripL, PV.noref, ri, feedL, feeds, Nat.reduceBEq, Array.toList, ↓reduceIte, forall_const, implies_true, Nat.reduceEqDiff, reduceCtorEq, alP, bxP, bsP, ifP, quiet, riD, bs_l, PV.isRef, plainCell, norefL, PV.scalar, scalarL, PV.cells, PV.solid, PV.one, PV.free, freeL, fillP, splice, Nat.reduceAdd, Nat.reduceMul, Nat.reduceSub, Nat.reduceLeDiff, Nat.reduceLT, Int.reduceToNat, Int.reduceEq, Int.reduceLT, Int.reduceLE, Int.reduceNeg, E0_vc, vaN, PV.avoid, avoidL, Nat.reduceGT, W66, D66, gd_node, nodeP, List.length_map, hE, txAsk, o2, ht, RB0]
   refine ⟨⟨h0, h1⟩, .inl rfl, by omega, hnz.2.1, ?_, hnz.1, by omega, ?_, ?_⟩
   ·simp only [ByteArray.size_append, z2]; omega
   ·simp only [ByteArray.size_append, z2, z6]; omega
   ·rw [htx, hr]; simp only [ByteArray.append_assoc]
  have hr : refB (c.getD i.toNat noNode).ref = (c.getD i.toNat noNode).ref.n := by rw [refB, if_pos (by omega)]
  simp -implicitDefEqProofs (maxSteps := 2000000) only [R0, R1, R2, R3, R4, R5, R6, R7, R8, R9, R10, R11, R12, R13, R14, R15, R16, PV.strip, stripL, PV.noref, ri, feedL, feeds, Nat.reduceBEq, Array.toList, ↓reduceIte, forall_const, implies_true, Nat.reduceEqDiff, reduceCtorEq, alP, bxP, bsP, ifP, quiet, riD, bs_l, PV.isRef, plainCell, norefL, PV.scalar, scalarL, PV.cells, PV.solid, PV.one, PV.free, freeL, fillP, splice, Nat.reduceAdd, Nat.reduceMul, Nat.reduceSub, Nat.reduceLeDiff, Nat.reduceLT, Int.reduceToNat, Int.reduceEq, Int.reduceLT, Int.reduceLE, Int.reduceNeg, E0_vc, vaN, PV.avoid, avoidL, Nat.reduceGT, W66, D66, gd_node, nodeP, List.length_map, hE, txAsk, o2, ht, RB0]
  refine ⟨⟨h0, h1⟩, .inl rfl, by omega, hnz.2.1, ?_, ?_⟩
  ·simp only [ByteArray.size_append, z2]; omega
  ·rw [htx, hr]
 by_cases o3 : (c.getD i.toNat noNode).op = 3
 ·rw [if_neg o1, if_neg o2, if_pos o3, o3] at htx
  rw [o3] at hpa
  obtain ⟨a0, a1⟩ := hn.1 o3
  rw [htx] at hsz ⊢
  simp only [ByteArray.size_append, z3] at hsz
  simp -implicitDefEqProofs (maxSteps := 2000000) only [R0, R1, R2, R3, R4, R5, R6, R7, R8, R9, R10, R11, R12, R13, R14, R15, R16, PV.strip, stripL, PV.noref, ri, feedL, feeds, Nat.reduceBEq, Array.toList, ↓reduceIte, forall_const, implies_true, Nat.reduceEqDiff, reduceCtorEq, alP, bxP, bsP, ifP, quiet, riD, bs_l, PV.isRef, plainCell, norefL, PV.scalar, scalarL, PV.cells, PV.solid, PV.one, PV.free, freeL, fillP, splice, Nat.reduceAdd, Nat.reduceMul, Nat.reduceSub, Nat.reduceLeDiff, Nat.reduceLT, Int.reduceToNat, Int.reduceEq, Int.reduceLT, Int.reduceLE, Int.reduceNeg, E0_vc, vaN, PV.avoid, avoidL, Nat.reduceGT, W66, D66, gd_node, nodeP, List.length_map, hE, txAsk, o3, RB0]
  exact ⟨⟨h0, h1⟩, hm, hz, a0, by omega, by omega, by omega, by omega⟩
 by_cases o4 : (c.getD i.toNat noNode).op = 4
 ·rw [if_neg o1, if_neg o2, if_neg o3, if_pos o4, o4] at htx
  rw [o4] at hpa hpb
  obtain ⟨⟨a0, a1⟩, b0, b1⟩ := hn.2 (.inl o4)
  rw [htx] at hsz ⊢
  simp only [ByteArray.size_append, z4] at hsz
  simp -implicitDefEqProofs (maxSteps := 2000000) only [R0, R1, R2, R3, R4, R5, R6, R7, R8, R9, R10, R11, R12, R13, R14, R15, R16, PV.strip, stripL, PV.noref, ri, feedL, feeds, Nat.reduceBEq, Array.toList, ↓reduceIte, forall_const, implies_true, Nat.reduceEqDiff, reduceCtorEq, alP, bxP, bsP, ifP, quiet, riD, bs_l, PV.isRef, plainCell, norefL, PV.scalar, scalarL, PV.cells, PV.solid, PV.one, PV.free, freeL, fillP, splice, Nat.reduceAdd, Nat.reduceMul, Nat.reduceSub, Nat.reduceLeDiff, Nat.reduceLT, Int.reduceToNat, Int.reduceEq, Int.reduceLT, Int.reduceLE, Int.reduceNeg, E0_vc, vaN, PV.avoid, avoidL, Nat.reduceGT, W66, D66, gd_node, nodeP, List.length_map, hE, txAsk, o4, RB0]
  exact ⟨⟨h0, h1⟩, .inl rfl, hm, hz, a0, by omega, by omega, by omega, by omega, hm, hz, b0, by omega, by omega, by omega, by simp only [ByteArray.size_append, z4]; omega⟩
 by_cases o5 : (c.getD i.toNat noNode).op = 5
 ·rw [if_neg o1, if_neg o2, if_neg o3, if_neg o4, if_pos o5, o5] at htx
  rw [o5] at hpa hpb
  obtain ⟨⟨a0, a1⟩, b0, b1⟩ := hn.2 (.inr o5)
  rw [htx] at hsz ⊢
  simp only [ByteArray.size_append, z5] at hsz
  simp -implicitDefEqProofs (maxSteps := 2000000) only [R0, R1, R2, R3, R4, R5, R6, R7, R8, R9, R10, R11, R12, R13, R14, R15, R16, PV.strip, stripL, PV.noref, ri, feedL, feeds, Nat.reduceBEq, Array.toList, ↓reduceIte, forall_const, implies_true, Nat.reduceEqDiff, reduceCtorEq, alP, bxP, bsP, ifP, quiet, riD, bs_l, PV.isRef, plainCell, norefL, PV.scalar, scalarL, PV.cells, PV.solid, PV.one, PV.free, freeL, fillP, splice, Nat.reduceAdd, Nat.reduceMul, Nat.reduceSub, Nat.reduceLeDiff, Nat.reduceLT, Int.reduceToNat, Int.reduceEq, Int.reduceLT, Int.reduceLE, Int.reduceNeg, E0_vc, vaN, PV.avoid, avoidL, Nat.reduceGT, W66, D66, gd_node, nodeP, List.length_map, hE, txAsk, o5, RB0]
  exact ⟨⟨h0, h1⟩, .inl rfl, hm, hz, a0, by omega, by omega, by omega, by omega, hm, hz, b0, by omega, by omega, by omega, by simp only [ByteArray.size_append, z5]; omega⟩
 have := makesC_fields hm _ (nd_mem h0 h1)
 rw [foX o1 o2 o3 o4 o5] at this
 cases this
theorem rTx_all : ∀ k : Nat, Sound Tryz.prog G0 66 (conT (CB.fn (rTxF k)).toCon)
 | 0 => ⟨⟨_, Tryz.func66, by decide, rfl⟩, fun Pr F R blks w args vs K _ _ _ _ _ ⟨r, ⟨ps, hq, hp⟩, _⟩ => by
  obtain ⟨c, o, i, rfl, rfl, rfl⟩ := rTxF_inv hq
  obtain ⟨_, _, h0, _, hk, _⟩ := tx_all hp
  omega⟩
 | k + 1 => rTx_step k (rPt_step k (rTx_all k))
def rTxGF := rTxF 2000
theorem rTxGE (c : List Node) (o : Bool) (i : Int) : rTxGF [.sl 6 (c.map nodeP) o, .val (.int .i64 i)] = some (txAsk c i 2000, vS (textD c i)) := rTxE 2000 c o i
def ctB (c : List Node) : List PV := if checkC c = 0 then [vS (textD c ((c.length : Int) - 1)), vI 0] else [vS ⟨#[]⟩, vI (checkC c)]
def ctF := onc fun c => ([szC c, szT c], .tuple (ctB c))
def rCTxF := ctF
def pCTxF := ctF
theorem rCTxE {j : Nat} {o : Bool} {c : List Node} (hj : j = 6 ∨ c = []) : rCTxF [.sl j (c.map nodeP) o] = some ([szC c, szT c], .tuple (ctB c)) := onc_P hj
theorem pCTxE {j : Nat} {o : Bool} {c : List Node} (hj : j = 6 ∨ c = []) : pCTxF [.sl j (c.map nodeP) o] = some ([szC c, szT c], .tuple (ctB c)) := onc_P hj
theorem ckLast {c : List Node} (h : checkC c = 0) : makesC c = true ∧ 1 ≤ (c.length : Int) ∧ (c.length : Int) ≤ 1024 := by
 have hm := checkC_makes h
 exact ⟨hm, makesC_ne hm⟩
def D45 : FuncId → Option CB
 | 24 => some (.fn rCCheckF)
 | 66 => some (.fn rTxGF)
 | _ => none
theorem D45_ok : AllB E0 D45 := fun g c h => by
 unfold D45 at h
 split at h <;> simp at h <;> subst h
 ·exact rCCheck_ok
 ·exact (rTx_all 2000)
theorem rCTx_ok : Sound Tryz.prog G0 45 (conT (CB.fn rCTxF).toCon) := by
 refine fn_of D45_ok mixed true Tryz.func45 (by decide) rfl _ ?_
 intro args ps r hq hp
 obtain ⟨j, o, c, rfl, hj, hx⟩ := onc_inv hq
 obtain ⟨rfl, rfl⟩ := Prod.mk.inj hx
 have hz := hp (szC c) (by simp)
 have hzt := hp (szT c) (by simp)
 refine ⟨by simp [norefL, PV.noref, nr_map nr_node], ?_⟩
 simp only [awpBFn, Tryz.ntmps45, List.length_cons, List.length_nil, Nat.reduceAdd, Nat.reduceSub, List.replicate_succ, List.replicate_zero, List.cons_append, List.nil_append, List.map_cons, List.map_nil]
 have hCE := fun o => rCCheckE (o := o) hj
 by_cases hck : checkC c = 0
 ·obtain ⟨hm, l1, l2⟩ := ckLast hck
  have hj6 : j = 6 := hj.resolve_right (by rintro rfl; simp at l1)
  subst hj6
  have hsz := text_size hm hzt
  simp -implicitDefEqProofs (maxSteps := 2000000) only [R0, R1, R2, R3, R4, R5, R6, R7, R8, R9, R10, R11, R12, R13, R14, R15, R16, PV.strip, stripL, PV.noref, ri, feedL, feeds, Nat.reduceBEq, Array.toList, ↓reduceIte, forall_const, implies_true, Nat.reduceEqDiff, reduceCtorEq, alP, bxP, bsP, ifP, quiet, riD, bs_l, PV.isRef, plainCell, norefL, PV.scalar, scalarL, PV.cells, PV.solid, PV.one, PV.free, freeL, fillP, splice, Nat.reduceAdd, Nat.reduceMul, Nat.reduceSub, Nat.reduceLeDiff, Nat.reduceLT, Int.reduceToNat, Int.reduceEq, Int.reduceLT, Int.reduceLE, Int.reduceNeg, E0_vc, vaN, PV.avoid, avoidL, Nat.reduceGT, Tryz.results45, Tryz.underlying25, D45, rCCheckE, rTxE, gd_node, nodeP, List.length_map, hCE, txAsk, rTxGE, hck, ctB, RB0]
  exact ⟨hz, by unfold inI64; omega, hm, hzt, by omega, by omega, by omega, hsz⟩
 ·simp -implicitDefEqProofs (maxSteps := 2000000) only [R0, R1, R2, R3, R4, R5, R6, R7, R8, R9, R10, R11, R12, R13, R14, R15, R16, PV.strip, stripL, PV.noref, ri, feedL, feeds, Nat.reduceBEq, Array.toList, ↓reduceIte, forall_const, implies_true, Nat.reduceEqDiff, reduceCtorEq, alP, bxP, bsP, ifP, quiet, riD, bs_l, PV.isRef, plainCell, norefL, PV.scalar, scalarL, PV.cells, PV.solid, PV.one, PV.free, freeL, fillP, splice, Nat.reduceAdd, Nat.reduceMul, Nat.reduceSub, Nat.reduceLeDiff, Nat.reduceLT, Int.reduceToNat, Int.reduceEq, Int.reduceLT, Int.reduceLE, Int.reduceNeg, E0_vc, vaN, PV.avoid, avoidL, Nat.reduceGT, Tryz.results45, Tryz.underlying25, D45, rCCheckE, rTxE, gd_node, nodeP, List.length_map, hCE, txAsk, rTxGE, hck, ctB, RB0]
  exact hz
end Go.Ve.H
end
section
set_option maxRecDepth 100000
set_option maxHeartbeats 8000000
namespace Go.Ve.H
open Go Go.Proofs Go.Ve
theorem bu_size : (Tryz.prog.info? 79).map (·.size) = some 2 := by kernel_rfl
theorem bu_ptr : Tryz.prog.underlying 76 = some (.pointer 79) := by kernel_rfl
theorem bu_uns : Tryz.prog.underlying 128 = some .unsafePointer := by kernel_rfl
theorem bcopy_used (c off : Nat) (w : World) (h0 : w.cell? ⟨c, off, none⟩ = some (.pointer (some ⟨c, off, none⟩))) :
  Calls Tryz.prog 59 #[.pointer (some ⟨c, off, none⟩)] w fun e w' => e = .returned (.tuple #[]) ∧ w' = w := by
 obtain ⟨j, hj, _⟩ := Option.map_eq_some_iff.1 bu_size
 go_enter Tryz.func59, Tryz.ntmps59
 go_wp2
 rw [Lib.run_neq_ptr_same w _ bu_ptr hj]
 go_wp2
 go_end0
 exact ⟨rfl, rfl⟩
def bldOk (T : TypeId) (off : Nat) : Bool := (T == 79 && off == 0) || (T == 108 && off == 1)
theorem bldOk_inv {T : TypeId} {off : Nat} (h : bldOk T off = true) : (T = 79 ∧ off = 0) ∨ (T = 108 ∧ off = 1) := by
 unfold bldOk at h; simpa using h
theorem bld_lies {T : TypeId} {off : Nat} (h : bldOk T off = true) : off < off + 2 ∧ liesAt Tryz.prog Tryz.prog.depth T ((off + 2) / Tryz.prog.cellsOf T) off 79 1 = true := by
 refine ⟨by omega, ?_⟩
 rcases bldOk_inv h with ⟨rfl, rfl⟩ | ⟨rfl, rfl⟩
 ·kernel_rfl
 ·kernel_rfl
theorem bcopy_fresh {T : TypeId} (c off : Nat) (w : World) (hok : bldOk T off = true) (h0 : w.cell? ⟨c, off, none⟩ = some (.pointer none)) (hsh : w.shape? c = some (T, off + 2)) (hfz : w.frozen? ⟨c, off, none⟩ = false) :
  Calls Tryz.prog 59 #[.pointer (some ⟨c, off, none⟩)] w fun e w' => e = .returned (.tuple #[]) ∧ w' = w.setCell ⟨c, off, none⟩ (.pointer (some ⟨c, off, none⟩)) := by
 obtain ⟨j, hj, hjs⟩ := Option.map_eq_some_iff.1 bu_size
 obtain ⟨hlt, hlies⟩ := bld_lies hok
 go_enter Tryz.func59, Tryz.ntmps59
 go_wp2
 rw [Lib.run_to_unsafe w ⟨c, off, none⟩ bu_ptr bu_uns hj (by rw [hjs]; decide) hsh hlt]
 simp only [Result.andThen]
 rw [Oper.upon_value]
 go_wp2
 rw [run_callFunc_extern Tryz.func81 (by kernel_rfl) (by kernel_rfl) (by kernel_rfl) (e := Extern.AbiNoEscape.same) (by kernel_rfl)]
 rw [Lib.run_noEscape]
 simp only [Result.andThen]
 rw [Oper.upon_value]
 go_wp2
 rw [Lib.run_from_unsafe w ⟨c, off, none⟩ bu_uns bu_ptr hj hsh hlies]
 simp only [Result.andThen]
 rw [Oper.upon_value]
 go_wp2
 go_end0
 exact ⟨rfl, rfl⟩
theorem bu_sl : Tryz.prog.underlying 77 = some (.slice 5) := by kernel_rfl
theorem bu_str : Tryz.prog.underlying 9 = some .string := by kernel_rfl
theorem bu_byte : (Tryz.prog.info? 5).map (fun i => (i.zero, i.size, i.bytes)) = some (some (.int .u8 0), 1, 1) := by kernel_rfl
theorem bcopy {T : TypeId} (c off : Nat) (vs : List Value) (p v : Value) (s : ByteArray) (w : World) (hok : bldOk T off = true) (hl : vs.length = off) (h : BldAt 5 T c vs p v s w) :
  Calls Tryz.prog 59 #[.pointer (some ⟨c, off, none⟩)] w fun e w' => e = .returned (.tuple #[]) ∧ BldAt 5 T c vs (.pointer (some ⟨c, off, none⟩)) v s w' ∧ (w' = w ∨ w' = w.setCell ⟨c, off, none⟩ (.pointer (some ⟨c, off, none⟩))) := by
 obtain ⟨h1, h2, h3, h4, h5⟩ := h
 subst hl
 have hc0 : w.cell? ⟨c, vs.length, none⟩ = some p := by simp [World.cell?, h1]
 rcases h2 with rfl | rfl
 ·have hset : (w.setCell ⟨c, vs.length, none⟩ (.pointer (some ⟨c, vs.length, none⟩))).heap[c]? = some (.cells (vs ++ [.pointer (some ⟨c, vs.length, none⟩), v]).toArray T (0, 0)) := by
   simp [World.setCell, Array.getElem?_modify, h1]
  have hoth : ∀ k, k ≠ c → (w.setCell ⟨c, vs.length, none⟩ (.pointer (some ⟨c, vs.length, none⟩))).heap[k]? = w.heap[k]? := fun k hk => RowKit.Below.heap_setCell _ _ _ _ (by simpa using hk)
  refine (bcopy_fresh c _ w hok hc0 (by simp [World.shape?, h1]) (by simp [World.frozen?, h1])).mono ?_
  rintro e w' ⟨rfl, rfl⟩
  refine ⟨rfl, ⟨hset, .inr rfl, ?_, h4, ?_⟩, .inr rfl⟩
  ·refine h3.kept (row := some c) ⟨rfl, rfl, rfl, by simp [World.setCell], fun k _ hk => hoth k (fun e => hk (by rw [e]))⟩ (.inr h4)
  ·intro g hg
   obtain ⟨cs, T', k1, k2⟩ := h5 g hg
   exact ⟨cs, T', by rw [hoth g (fun e => h4 (e ▸ hg))]; exact k1, k2⟩
 ·refine (bcopy_used c _ w hc0).mono ?_
  rintro e w' ⟨rfl, rfl⟩
  exact ⟨rfl, ⟨h1, .inr rfl, h3, h4, h5⟩, .inl rfl⟩
theorem bwrite {T : TypeId} (c off : Nat) (vs : List Value) (p v : Value) (s x : ByteArray) (w : World) (hok : bldOk T off = true) (hl : vs.length = off) (h : BldAt 5 T c vs p v s w) (hsz : s.size + x.size ≤ 140737488355328) :
  Calls Tryz.prog 36 #[.pointer (some ⟨c, off, none⟩), .string x] w fun r w' => r = .returned (.tuple #[.int .i64 x.size, .nilIface]) ∧ ∃ p' v', BldAt 5 T c vs p' v' (s ++ x) w' ∧ BldKept w w' c v ∧ (v'.ownBlock = v.ownBlock ∨ ∀ g, v'.ownBlock = some g → w.heap.size ≤ g) := by
 obtain ⟨i0, hi, hz0, hz1, hz2⟩ : ∃ i, Tryz.prog.info? 5 = some i ∧ i.zero = some (.int .u8 0) ∧ i.size = 1 ∧ i.bytes = 1 := by
  obtain ⟨i, hi, he⟩ := Option.map_eq_some_iff.1 bu_byte
  simp only [Prod.mk.injEq] at he
  exact ⟨i, hi, he⟩
 have hne0 := h.2.2.2.1
 go_enter Tryz.func36, Tryz.ntmps36
 go_wp2_with (go_at_call 59; refine (bcopy c off vs p v s _ hok hl h).mono ?_)
 rintro e w1 ⟨rfl, h1, hw1⟩
 obtain ⟨a1, a2, a3, a4, a5⟩ := h1
 have hkc : ∀ k, k ≠ c → w1.heap[k]? = w.heap[k]? := fun k hk => by
  rcases hw1 with rfl | rfl
  ·rfl
  ·exact RowKit.Below.heap_setCell _ _ _ _ (by simpa using hk)
 have hs1 : w1.heap.size = w.heap.size ∧ w1.os = w.os ∧ w1.tape = w.tape ∧ w1.output = w.output := by
  rcases hw1 with rfl | rfl
  ·exact ⟨rfl, rfl, rfl, rfl⟩
  ·exact ⟨by simp [World.setCell], rfl, rfl, rfl⟩
 clear hw1
 subst hl
 have c1 : w1.cell? ⟨c, vs.length + 1, none⟩ = some v := by simp [World.cell?, a1]
 go_wp2_with (at_builtin; refine wpList_bld (v := v) (n := s.size) (xs := Lib.strCells s) (s := x) (sl := .tmp 12) (x := .tmp 13) (t := 77) (u := 9) (e := 5) (i := i0) ?g1 ?g2 bu_sl bu_str hi hz0 hz1 hz2 ?g3 a3 a5 ?g4 hsz ?g5)
 case g1 => rfl
 case g2 => rfl
 case g3 => rfl
 case g4 => rfl
 intro v' w2 hown' hro' hgrow hblk
 have hlt : c < w1.heap.size := (Array.getElem?_eq_some_iff.1 a1).1
 have hb2 : w2.heap[c]? = some (.cells (vs ++ [.pointer (some ⟨c, vs.length, none⟩), v]).toArray T (0, 0)) := by
  rw [hgrow.block c hlt (fun e => a4 e.symm)]
  exact a1
 have d1 : w2.cell? ⟨c, vs.length + 1, none⟩ = some v := by simp [World.cell?, hb2]
 have f1 : w2.frozen? ⟨c, vs.length + 1, none⟩ = false := by simp [World.frozen?, hb2]
 obtain ⟨ao, n', cap, rfl⟩ : ∃ ao n' cap, v' = .slice ao n' cap := by
  rcases hown'.2 with ⟨hv, _⟩ | ⟨g, cap, cur, hv, _⟩
  ·exact ⟨_, _, _, hv⟩
  ·exact ⟨_, _, _, hv⟩
 go_wp2
 go_ret2
 obtain ⟨e1, e2, e3, e4⟩ := hs1
 have hnb : (Value.slice ao n' cap).ownBlock ≠ some c := by
  rcases hblk with hb | hb
  ·rw [hb]; exact a4
  ·intro h'
   have := hb c h'
   omega
 have hoth : ∀ k, k ≠ c → (w2.setCell ⟨c, vs.length + 1, none⟩ (.slice ao n' cap)).heap[k]? = w2.heap[k]? := fun k hk => RowKit.Below.heap_setCell _ _ _ _ (by simpa using hk)
 have hsz2 : (w2.setCell ⟨c, vs.length + 1, none⟩ (.slice ao n' cap)).heap.size = w2.heap.size := by simp [World.setCell]
 refine ⟨rfl, _, .slice ao n' cap, ⟨?_, .inr rfl, ?_, hnb, ?_⟩, ⟨?_, ?_, ?_, ?_, ?_⟩, ?_⟩
 ·simp [World.setCell, Array.getElem?_modify, hb2]
 ·rw [strCells_app, show (s ++ x).size = s.size + x.size from ByteArray.size_append ..]
  exact hown'.kept (row := some c) ⟨rfl, rfl, rfl, by rw [hsz2]; exact Nat.le_refl _, fun k _ hk => hoth k (fun e => hk (by rw [e]))⟩ (.inr hnb)
 ·intro g hg
  obtain ⟨cs, T', k1, k2⟩ := hro' g hg
  exact ⟨cs, T', by rw [hoth g (fun e => hnb (e ▸ hg))]; exact k1, k2⟩
 ·exact hgrow.os.trans e2
 ·exact hgrow.tape.trans e3
 ·exact hgrow.output.trans e4
 ·rw [hsz2, ← e1]; exact hgrow.size
 ·intro k h1 h2 h3
  rw [hoth k h2, hgrow.block k (by rw [e1]; exact h1) h3, hkc k h2]
 ·exact hblk
theorem bWrite_ok : Sound Tryz.prog G0 36 (bldWT 5 bldOk) :=
 Sound.bldW ⟨_, Tryz.func36, by decide, rfl⟩ 5 bldOk fun T off hok w c vs p v s x hl h hsz => bwrite c off vs p v s x w hok hl h hsz
theorem bu_p5 : Tryz.prog.underlying 114 = some (.pointer 5) := by kernel_rfl
theorem bu_c5 : Tryz.prog.cellsOf 5 = 1 := by kernel_rfl
theorem bstring {T : TypeId} (c off : Nat) (vs : List Value) (p v : Value) (s : ByteArray) (w : World) (hok : bldOk T off = true) (hl : vs.length = off) (h : BldAt 5 T c vs p v s w) :
    Calls Tryz.prog 42 #[.pointer (some ⟨c, off, none⟩)] w fun r w' => r = .returned (.string s) ∧ BldKept w w' c v := by
  obtain ⟨a1, _, a3, a4, a5⟩ := h
  subst hl
  have c1 : ∀ V : World, V.heap[c]? = w.heap[c]? → V.cell? ⟨c, vs.length + 1, none⟩ = some v := fun V hV => by simp [World.cell?, hV, a1]
  rcases a3.2 with ⟨rfl, h0⟩ | ⟨g, cap, cur, rfl, _, hg, hnc, hcm, hcs, htake⟩
  · have hs : s = ⟨#[]⟩ := by
      cases s with | mk d => have : d.size = 0 := h0
                             rw [Array.size_eq_zero_iff.1 this]
    subst hs
    have c1' := c1 w.drew rfl
    have hSD : (Builtin.unsafeSliceData_ #[77] 114 #[.slice none 0 0]).run Tryz.prog w.drew = .ok (.pointer none) w.drew := rfl
    have hUS : (Builtin.unsafeString_ #[114, 3] 9 #[.pointer none, .int .i64 0]).run Tryz.prog w.drew = .ok (.string .empty) w.drew := Lib.run_unsafeString_none w.drew _ _ _ none
    go_enter Tryz.func42, Tryz.ntmps42
    go_wp2
    go_region
    all_goals (go_wp2; go_ret; exact ⟨rfl, ⟨rfl, rfl, rfl, Nat.le_refl _, fun _ _ _ _ => rfl⟩⟩)
  · by_cases h0 : s.size = 0
    · have hs : s = ⟨#[]⟩ := by
        cases s with | mk d => have : d.size = 0 := h0
                               rw [Array.size_eq_zero_iff.1 this]
      subst hs
      by_cases hc0 : cap = 0
      · subst hc0
        have hlt : c < w.heap.size := (Array.getElem?_eq_some_iff.1 a1).1
        have c1' : w.drew.cell? ⟨c, vs.length + 1, none⟩ = some (.slice (some ⟨g, 0, none⟩) 0 0) := c1 w.drew rfl
        have hold : ∀ k, k < w.heap.size → (w.drew.alloc (.view ⟨g, 0, none⟩ 5)).heap[k]? = w.heap[k]? := fun k hk => Lib.alloc_old w.drew _ k hk
        have c2 : (w.drew.alloc (.view ⟨g, 0, none⟩ 5)).cell? ⟨c, vs.length + 1, none⟩ = some (.slice (some ⟨g, 0, none⟩) 0 0) := c1 _ (hold c hlt)
        have c3 : (w.alloc (.view ⟨g, 0, none⟩ 5)).drew.cell? ⟨c, vs.length + 1, none⟩ = some (.slice (some ⟨g, 0, none⟩) 0 0) := c2
        have c0 : w.cell? ⟨c, vs.length + 1, none⟩ = some (.slice (some ⟨g, 0, none⟩) 0 0) := c1'
        have hSD : (Builtin.unsafeSliceData_ #[77] 114 #[.slice (some ⟨g, 0, none⟩) 0 0]).run Tryz.prog w.drew = .ok (.pointer (some ⟨w.drew.heap.size, 0, none⟩)) (w.drew.alloc (.view ⟨g, 0, none⟩ 5)) :=
          Lib.run_unsafeSliceData_zero w.drew _ _ 5 bu_p5 ⟨g, 0, none⟩ 0 (5, cur.size) (by have hg' : w.drew.heap[g]? = some (.cells cur 5 (0, 0)) := hg; simp [World.shape?, hg'])
        have hUS : ∀ (W : World) (q : Option Addr), (Builtin.unsafeString_ #[114, 3] 9 #[.pointer q, .int .i64 0]).run Tryz.prog W = .ok (.string .empty) W := fun W q => Lib.run_unsafeString_none W _ _ _ q
        go_enter Tryz.func42, Tryz.ntmps42
        go_wp2
        go_region
        all_goals (go_wp2; go_ret; exact ⟨rfl, ⟨rfl, rfl, rfl, by simp, fun k hk _ _ => hold k hk⟩⟩)
      · have c1' : w.drew.cell? ⟨c, vs.length + 1, none⟩ = some (.slice (some ⟨g, 0, none⟩) 0 cap) := c1 w.drew rfl
        have hSD : (Builtin.unsafeSliceData_ #[77] 114 #[.slice (some ⟨g, 0, none⟩) 0 cap]).run Tryz.prog w.drew = .ok (.pointer (some ⟨g, 0, none⟩)) w.drew := Lib.run_unsafeSliceData_row _ _ _ _ _ _ hc0
        have hUS : ∀ (W : World) (q : Option Addr), (Builtin.unsafeString_ #[114, 3] 9 #[.pointer q, .int .i64 0]).run Tryz.prog W = .ok (.string .empty) W := fun W q => Lib.run_unsafeString_none W _ _ _ q
        clear hc0
        go_enter Tryz.func42, Tryz.ntmps42
        go_wp2
        go_region
        all_goals (go_wp2; go_ret; exact ⟨rfl, ⟨rfl, rfl, rfl, Nat.le_refl _, fun _ _ _ _ => rfl⟩⟩)
    · have hl : s.data.toList.length = s.size := by rw [Array.length_toList]; rfl
      have hne : s.data.toList ≠ [] := fun e => h0 (by rw [← hl, e]; rfl)
      have hse : (⟨s.data.toList.toArray⟩ : ByteArray) = s := by cases s; simp
      have c1' : w.drew.cell? ⟨c, vs.length + 1, none⟩ = some (.slice (some ⟨g, 0, none⟩) s.size cap) := c1 w.drew rfl
      have hSD : (Builtin.unsafeSliceData_ #[77] 114 #[.slice (some ⟨g, 0, none⟩) s.size cap]).run Tryz.prog w.drew = .ok (.pointer (some ⟨g, 0, none⟩)) w.drew := Lib.run_unsafeSliceData_row _ _ _ _ _ _ (by omega)
      have hcz : cur.size = cap := by simpa using hcs
      have hUS : (Builtin.unsafeString_ #[114, 3] 9 #[.pointer (some ⟨g, 0, none⟩), .int .i64 s.size]).run Tryz.prog w.drew = .ok (.string s) (w.drew.freeze ⟨g, 0, none⟩ s.size) := by
        have := Lib.run_unsafeString_row (P := Tryz.prog) w.drew 114 3 9 5 bu_p5 bu_c5 g cur.size (by have hg' : w.drew.heap[g]? = some (.cells cur 5 (0, 0)) := hg; simp [World.shape?, hg']) s.data.toList hne (by omega) (by unfold maxLen at hcm; omega) (by
          intro j x hx
          exact a3.cells (g := g) rfl j (.int .u8 x.toNat) (by rw [Lib.strCells_eq, Lib.byteCells, List.getElem?_map, hx]; rfl))
        rw [hl, hse] at this
        exact this
      obtain ⟨H, hF⟩ : ∃ H, w.drew.freeze ⟨g, 0, none⟩ s.size = { w.drew with heap := w.drew.heap.modify g H } := ⟨_, by unfold World.freeze; rw [if_neg h0]⟩
      have hfr : ∀ k, k ≠ g → (w.drew.freeze ⟨g, 0, none⟩ s.size).heap[k]? = w.heap[k]? := fun k hk => by
        rw [hF]
        show (w.drew.heap.modify g H)[k]? = _
        rw [Array.getElem?_modify, if_neg (fun e => hk e.symm)]; rfl
      have hfs : (w.drew.freeze ⟨g, 0, none⟩ s.size).heap.size = w.heap.size := by
        rw [hF]; show (w.drew.heap.modify g H).size = _; rw [Array.size_modify]; rfl
      have hfo : (w.drew.freeze ⟨g, 0, none⟩ s.size).os = w.os ∧ (w.drew.freeze ⟨g, 0, none⟩ s.size).tape = w.tape ∧ (w.drew.freeze ⟨g, 0, none⟩ s.size).output = w.output := by
        rw [hF]; exact ⟨rfl, rfl, rfl⟩
      clear hF
      clear hse hl hne
      go_enter Tryz.func42, Tryz.ntmps42
      go_wp2
      go_region
      all_goals (go_wp2; go_ret; exact ⟨rfl, ⟨hfo.1, hfo.2.1, hfo.2.2, Nat.le_of_eq hfs.symm, fun k _ _ hk => hfr k (fun e => hk (by rw [e]; rfl))⟩⟩)
theorem bString_ok : Sound Tryz.prog G0 42 (bldST 5 bldOk) :=
 Sound.bldS ⟨_, Tryz.func42, by decide, rfl⟩ 5 bldOk fun T off hok w c vs p v s hl h => bstring c off vs p v s w hok hl h
end Go.Ve.H
end
section
set_option maxRecDepth 10000
set_option maxHeartbeats 8000000
namespace Go.Ve.H
open Go Go.Proofs Go.Ve
theorem bWriteE (Y : Option Yd) (b off : Nat) (x : ByteArray) (M : List Blk) (K : PV → List Blk → Prop) : conY Y (Con.gen (bldWT 5 bldOk) (bldWT_mono 5 bldOk)) [.ptr b off, .val (.string x)] M K = bldWQ 5 bldOk b off x M K M[b]? := rfl
theorem bStringE (Y : Option Yd) (b off : Nat) (M : List Blk) (K : PV → List Blk → Prop) : conY Y (Con.gen (bldST 5 bldOk) (bldST_mono 5 bldOk)) [.ptr b off] M K = bldSQ 5 bldOk b off M K M[b]? := rfl
theorem nl_p (b o : Nat) : nilP (.ptr b o) = some (.ptr b o) := rfl
theorem fa108_0 (v : PV) : faP Tryz.prog 108 0 v = faQ 1 0 v := fa_q (ty := 25) (by kernel_rfl) (by kernel_rfl) v
def wrB (c : List Node) (o : Bool) (s : ByteArray) : Blk := .bld 108 5 [.sl 6 (c.map nodeP) o] s
def pNdT (k : Nat) : PT := fun args M K => ∃ (c : List Node) (o : Bool) (Y : List Blk) (s : ByteArray) (i : Int), args = [.ptr 0 0, vI i] ∧ M = wrB c o s :: Y ∧ makesC c = true ∧ szT c ∧ 0 ≤ i ∧ i < c.length ∧ i < k ∧ s.size + (textD c i).size ≤ 140737488355328 ∧
 ∀ X, K (.tuple []) (wrB c o (s ++ textD c i) :: (Y ++ X))
theorem pNdT_mono (k : Nat) : ∀ args M K K', (∀ r b, K r b → K' r b) → pNdT k args M K → pNdT k args M K' := by
 rintro args M K K' hk ⟨c, o, Y, s, i, h1, h2, h3, h4, h5, h6, h7, h8, h9⟩
 exact ⟨c, o, Y, s, i, h1, h2, h3, h4, h5, h6, h7, h8, fun X => hk _ _ (h9 X)⟩
def pPtT (k : Nat) : PT := fun args M K => ∃ (c : List Node) (o : Bool) (Y : List Blk) (s : ByteArray) (op i : Int) (b : Bool), args = [.ptr 0 0, vI op, vI i, vT b] ∧ M = wrB c o s :: Y ∧ makesC c = true ∧ szT c ∧ 0 ≤ i ∧ i < c.length ∧ i < k ∧ s.size + (partT c op i b).size ≤ 140737488355328 ∧
 ∀ X, K (.tuple []) (wrB c o (s ++ partT c op i b) :: (Y ++ X))
theorem pPtT_mono (k : Nat) : ∀ args M K K', (∀ r b, K r b → K' r b) → pPtT k args M K → pPtT k args M K' := by
 rintro args M K K' hk ⟨c, o, Y, s, op, i, b, h1, h2, h3, h4, h5, h6, h7, h8, h9⟩
 exact ⟨c, o, Y, s, op, i, b, h1, h2, h3, h4, h5, h6, h7, h8, fun X => hk _ _ (h9 X)⟩
def D80 (k : Nat) : FuncId → Option CB
 | 58 => some (.con (.gen (pNdT k) (pNdT_mono k)))
 | 36 => some (.con (.gen (bldWT 5 bldOk) (bldWT_mono 5 bldOk)))
 | 92 => some (.fn pBrackF)
 | _ => none
theorem pNdE (k : Nat) (Y : Option Yd) (args : List PV) (M : List Blk) (K : PV → List Blk → Prop) : conY Y (Con.gen (pNdT k) (pNdT_mono k)) args M K = pNdT k args M K := rfl
theorem pPtE (k : Nat) (Y : Option Yd) (args : List PV) (M : List Blk) (K : PV → List Blk → Prop) : conY Y (Con.gen (pPtT k) (pPtT_mono k)) args M K = pPtT k args M K := rfl
theorem pPt_step (k : Nat) (h : Sound Tryz.prog G0 58 (pNdT k)) : Sound Tryz.prog G0 80 (pPtT k) := by
 have hD : AllB E0 (D80 k) := fun g c hg => by
  unfold D80 at hg
  split at hg <;> simp at hg <;> subst hg
  ·exact h
  ·exact bWrite_ok
  ·exact pBrack_ok
 refine Sound.weaken (sound_of_awp (D := conD (D80 k)) hD.con mixed Tryz.func80 (by decide) rfl) ?_
 intro args M K hh
 refine awpBFn_sound (s := true) ?_
 obtain ⟨c, o, Y, s, op, i, sec, rfl, rfl, hm, hz, h0, h1, hk, hsz, hK⟩ := hh
 simp only [awpBFn, Tryz.ntmps80, List.length_cons, List.length_nil, Nat.reduceAdd, Nat.reduceSub, List.replicate_succ, List.replicate_zero, List.cons_append, List.nil_append, List.map_cons, List.map_nil]
 have hop : (c.getD i.toNat noNode).op = ndOp c i := by unfold ndOp; rw [nd_at h0 h1]
 have z1 : (⟨#[40]⟩ : ByteArray).size = 1 := rfl
 have z2 : (⟨#[41]⟩ : ByteArray).size = 1 := rfl
 cases hb : brack op (ndOp c i) sec with
 | true =>
  have hp : partT c op i sec = ⟨#[40]⟩ ++ textD c i ++ ⟨#[41]⟩ := by rw [partT, brB, if_pos hb]
  rw [hp] at hsz hK
  simp only [ByteArray.size_append, z1, z2] at hsz
  simp -implicitDefEqProofs (maxSteps := 2000000) only [R0, R1, R2, R3, R4, R5, R6, R7, R8, R9, R10, R11, R12, R13, R14, R15, R16, PV.strip, stripL, PV.noref, ri, feedL, feeds, Nat.reduceBEq, Array.toList, ↓reduceIte, forall_const, implies_true, Nat.reduceEqDiff, reduceCtorEq, alP, bxP, bsP, ifP, quiet, riD, bs_l, PV.isRef, plainCell, norefL, PV.scalar, scalarL, PV.cells, PV.solid, PV.one, PV.free, freeL, fillP, splice, Nat.reduceAdd, Nat.reduceMul, Nat.reduceSub, Nat.reduceLeDiff, Nat.reduceLT, Int.reduceToNat, Int.reduceEq, Int.reduceLT, Int.reduceLE, Int.reduceNeg, E0_vc, vaN, PV.avoid, avoidL, Nat.reduceGT, Tryz.results80, fa108_0, ag25, sz25, zd25, Tryz.underlying25, sz52, zd52, fa52_0, ag3, sz3, zd3, fa108_1, D80, bWriteE, pNdE, pBrackE, wrB, nl_p, gd_node, nodeP, List.length_map, bdw_q, hop, hb, RB0]
  refine ⟨⟨h0, h1⟩, rfl, by omega, c, o, Y, _, i, rfl, rfl, hm, hz, h0, h1, hk, by simp only [ByteArray.size_append, z1]; omega, fun X => ?_⟩
  simp only [wrB, List.getElem?_cons_zero, bdw_q, List.set_cons_zero]
  refine ⟨trivial, rfl, rfl, by simp only [ByteArray.size_append, z1, z2]; omega, ?_⟩
  have := hK X
  rw [wrB] at this
  simp only [ByteArray.append_assoc] at this ⊢
  exact this
 | false =>
  have hp : partT c op i sec = textD c i := by rw [partT, brB, if_neg (by rw [hb]; decide)]
  rw [hp] at hsz hK
  simp -implicitDefEqProofs (maxSteps := 2000000) only [R0, R1, R2, R3, R4, R5, R6, R7, R8, R9, R10, R11, R12, R13, R14, R15, R16, PV.strip, stripL, PV.noref, ri, feedL, feeds, Nat.reduceBEq, Array.toList, ↓reduceIte, forall_const, implies_true, Nat.reduceEqDiff, reduceCtorEq, alP, bxP, bsP, ifP, quiet, riD, bs_l, PV.isRef, plainCell, norefL, PV.scalar, scalarL, PV.cells, PV.solid, PV.one, PV.free, freeL, fillP, splice, Nat.reduceAdd, Nat.reduceMul, Nat.reduceSub, Nat.reduceLeDiff, Nat.reduceLT, Int.reduceToNat, Int.reduceEq, Int.reduceLT, Int.reduceLE, Int.reduceNeg, E0_vc, vaN, PV.avoid, avoidL, Nat.reduceGT, Tryz.results80, fa108_0, ag25, sz25, zd25, Tryz.underlying25, sz52, zd52, fa52_0, ag3, sz3, zd3, fa108_1, D80, bWriteE, pNdE, pBrackE, wrB, nl_p, gd_node, nodeP, List.length_map, bdw_q, hop, hb, RB0]
  exact ⟨⟨h0, h1⟩, c, o, Y, _, i, rfl, rfl, hm, hz, h0, h1, hk, hsz, fun X => hK X⟩
def D58 (k : Nat) : FuncId → Option CB
 | 80 => some (.con (.gen (pPtT k) (pPtT_mono k)))
 | 36 => some (.con (.gen (bldWT 5 bldOk) (bldWT_mono 5 bldOk)))
 | 40 => some (.fn wTextF)
 | 79 => some (.fn refTF)
 | _ => none
def W58 := And.intro @Tryz.results58 (And.intro @fa108_0 (And.intro @ag25 (And.intro @sz25 (And.intro @zd25 (And.intro @Tryz.underlying25 (And.intro @sz52 (And.intro @zd52 (And.intro @ag52 (And.intro @zp52 (And.intro @fa52_0 (And.intro @ag3 (And.intro @sz3 (And.intro @zd3 (And.intro @fa108_1 (And.intro @fa52_3 (And.intro @ag45 (And.intro @sz45 (And.intro @fa52_4 (And.intro @ag2 (And.intro @sz2 (And.intro @zd2 (And.intro @fa52_1 (And.intro @fa52_2 (And.intro @bWriteE (And.intro @wTextE (And.intro @refTE (@pPtE)))))))))))))))))))))))))))
theorem pNd_step (k : Nat) (h : Sound Tryz.prog G0 80 (pPtT k)) : Sound Tryz.prog G0 58 (pNdT (k + 1)) := by
 have hD : AllB E0 (D58 k) := fun g c hg => by
  unfold D58 at hg
  split at hg <;> simp at hg <;> subst hg
  ·exact h
  ·exact bWrite_ok
  ·exact wText_ok
  ·exact refT_ok
 refine Sound.weaken (sound_of_awp (D := conD (D58 k)) hD.con mixed Tryz.func58 (by decide) rfl) ?_
 intro args M K hh
 refine awpBFn_sound (s := true) ?_
 obtain ⟨c, o, Y, s, i, rfl, rfl, hm, hz, h0, h1, hk, hsz, hK⟩ := hh
 simp only [awpBFn, Tryz.ntmps58, List.length_cons, List.length_nil, Nat.reduceAdd, Nat.reduceSub, List.replicate_succ, List.replicate_zero, List.cons_append, List.nil_append, List.map_cons, List.map_nil]
 have hw := makesC_wf hm
 have hn := hw i.toNat _ (nd_at h0 h1)
 have htx := textD_eq hw h0 h1
 have hnz := hz _ (nd_mem h0 h1)
 have hpa := partT_size c (c.getD i.toNat noNode).op (c.getD i.toNat noNode).a false
 have hpb := partT_size c (c.getD i.toNat noNode).op (c.getD i.toNat noNode).b true
 have z1 : (⟨#[116, 114, 117, 101]⟩ : ByteArray).size = 4 := rfl
 have z2 : (⟨#[61]⟩ : ByteArray).size = 1 := rfl
 have z3 : (⟨#[126]⟩ : ByteArray).size = 1 := rfl
 have z4 : (⟨#[32, 47, 92, 32]⟩ : ByteArray).size = 4 := rfl
 have z5 : (⟨#[32, 92, 47, 32]⟩ : ByteArray).size = 4 := rfl
 have hY1 : ∀ (x : Blk) (X : List Blk), (Y ++ x :: X)[Y.length]? = some x := fun x X => by rw [List.getElem?_append_right (Nat.le_refl _), Nat.sub_self]; rfl
 have hY2 : ∀ (x y : Blk) (X : List Blk), (Y ++ x :: X).set Y.length y = Y ++ y :: X := fun x y X => by rw [List.set_append_right _ _ (Nat.le_refl _), Nat.sub_self]; rfl
 simp only at htx
 by_cases o1 : (c.getD i.toNat noNode).op = 1
 ·rw [if_pos o1] at htx
  rw [htx] at hsz hK
  simp -implicitDefEqProofs (maxSteps := 2000000) only [R0, R1, R2, R3, R4, R5, R6, R7, R8, R9, R10, R11, R12, R13, R14, R15, R16, PV.strip, stripL, PV.noref, ri, feedL, feeds, Nat.reduceBEq, Array.toList, ↓reduceIte, forall_const, implies_true, Nat.reduceEqDiff, reduceCtorEq, alP, bxP, bsP, ifP, quiet, riD, bs_l, PV.isRef, plainCell, norefL, PV.scalar, scalarL, PV.cells, PV.solid, PV.one, PV.free, freeL, fillP, splice, Nat.reduceAdd, Nat.reduceMul, Nat.reduceSub, Nat.reduceLeDiff, Nat.reduceLT, Int.reduceToNat, Int.reduceEq, Int.reduceLT, Int.reduceLE, Int.reduceNeg, E0_vc, vaN, PV.avoid, avoidL, Nat.reduceGT, W58, D58, wrB, nl_p, gd_node, nodeP, List.length_map, bdw_q, hY1, hY2, o1, RB0]
  exact ⟨⟨h0, h1⟩, rfl, hsz, hK _⟩
 by_cases o2 : (c.getD i.toNat noNode).op = 2
 ·rw [if_neg o1, if_pos o2] at htx
  rw [htx] at hsz hK
  have hs1 := refB_size hnz.1
  have hs2 := itoa_size hnz.2.1
  simp -implicitDefEqProofs (maxSteps := 2000000) only [R0, R1, R2, R3, R4, R5, R6, R7, R8, R9, R10, R11, R12, R13, R14, R15, R16, PV.strip, stripL, PV.noref, ri, feedL, feeds, Nat.reduceBEq, Array.toList, ↓reduceIte, forall_const, implies_true, Nat.reduceEqDiff, reduceCtorEq, alP, bxP, bsP, ifP, quiet, riD, bs_l, PV.isRef, plainCell, norefL, PV.scalar, scalarL, PV.cells, PV.solid, PV.one, PV.free, freeL, fillP, splice, Nat.reduceAdd, Nat.reduceMul, Nat.reduceSub, Nat.reduceLeDiff, Nat.reduceLT, Int.reduceToNat, Int.reduceEq, Int.reduceLT, Int.reduceLE, Int.reduceNeg, E0_vc, vaN, PV.avoid, avoidL, Nat.reduceGT, W58, D58, wrB, nl_p, gd_node, nodeP, List.length_map, bdw_q, hY1, hY2, o2, RB0]
  exact ⟨⟨h0, h1⟩, .inl rfl, hnz.1, by omega, by show (refB (c.getD i.toNat noNode).ref).size + _ ≤ _; omega, hnz.2.1, by
   show (refB (c.getD i.toNat noNode).ref ++ _).size + _ ≤ _
   simp only [ByteArray.size_append, z2]; omega, rfl, hsz, hK _⟩
 by_cases o3 : (c.getD i.toNat noNode).op = 3
 ·rw [if_neg o1, if_neg o2, if_pos o3, o3] at htx
  rw [o3] at hpa
  obtain ⟨a0, a1⟩ := hn.1 o3
  rw [htx] at hsz hK
  simp only [ByteArray.size_append, z3] at hsz
  simp -implicitDefEqProofs (maxSteps := 2000000) only [R0, R1, R2, R3, R4, R5, R6, R7, R8, R9, R10, R11, R12, R13, R14, R15, R16, PV.strip, stripL, PV.noref, ri, feedL, feeds, Nat.reduceBEq, Array.toList, ↓reduceIte, forall_const, implies_true, Nat.reduceEqDiff, reduceCtorEq, alP, bxP, bsP, ifP, quiet, riD, bs_l, PV.isRef, plainCell, norefL, PV.scalar, scalarL, PV.cells, PV.solid, PV.one, PV.free, freeL, fillP, splice, Nat.reduceAdd, Nat.reduceMul, Nat.reduceSub, Nat.reduceLeDiff, Nat.reduceLT, Int.reduceToNat, Int.reduceEq, Int.reduceLT, Int.reduceLE, Int.reduceNeg, E0_vc, vaN, PV.avoid, avoidL, Nat.reduceGT, W58, D58, wrB, nl_p, gd_node, nodeP, List.length_map, bdw_q, hY1, hY2, o3, RB0]
  refine ⟨⟨h0, h1⟩, rfl, by omega, c, o, _, _, _, _, _, rfl, rfl, hm, hz, a0, by omega, by omega, by simp only [ByteArray.size_append, z3]; omega, fun X => ?_⟩
  have := hK ([.live (nodeP (c.getD i.toNat noNode)).cells] ++ X)
  rw [← List.append_assoc, ← ByteArray.append_assoc, nodeP, o3] at this
  exact this
 by_cases o4 : (c.getD i.toNat noNode).op = 4
 ·rw [if_neg o1, if_neg o2, if_neg o3, if_pos o4, o4] at htx
  rw [o4] at hpa hpb
  obtain ⟨⟨a0, a1⟩, b0, b1⟩ := hn.2 (.inl o4)
  rw [htx] at hsz hK
  simp only [ByteArray.size_append, z4] at hsz
  simp -implicitDefEqProofs (maxSteps := 2000000) only [R0, R1, R2, R3, R4, R5, R6, R7, R8, R9, R10, R11, R12, R13, R14, R15, R16, PV.strip, stripL, PV.noref, ri, feedL, feeds, Nat.reduceBEq, Array.toList, ↓reduceIte, forall_const, implies_true, Nat.reduceEqDiff, reduceCtorEq, alP, bxP, bsP, ifP, quiet, riD, bs_l, PV.isRef, plainCell, norefL, PV.scalar, scalarL, PV.cells, PV.solid, PV.one, PV.free, freeL, fillP, splice, Nat.reduceAdd, Nat.reduceMul, Nat.reduceSub, Nat.reduceLeDiff, Nat.reduceLT, Int.reduceToNat, Int.reduceEq, Int.reduceLT, Int.reduceLE, Int.reduceNeg, E0_vc, vaN, PV.avoid, avoidL, Nat.reduceGT, W58, D58, wrB, nl_p, gd_node, nodeP, List.length_map, bdw_q, hY1, hY2, o4, RB0]
  refine ⟨⟨h0, h1⟩, c, o, _, _, _, _, _, rfl, rfl, hm, hz, a0, by omega, by omega, by omega, fun X => ?_⟩
  simp -implicitDefEqProofs (maxSteps := 2000000) only [R0, R1, R2, R3, R4, R5, R6, R7, R8, R9, R10, R11, R12, R13, R14, R15, R16, PV.strip, stripL, PV.noref, ri, feedL, feeds, Nat.reduceBEq, Array.toList, ↓reduceIte, forall_const, implies_true, Nat.reduceEqDiff, reduceCtorEq, alP, bxP, bsP, ifP, quiet, riD, bs_l, PV.isRef, plainCell, norefL, PV.scalar, scalarL, PV.cells, PV.solid, PV.one, PV.free, freeL, fillP, splice, Nat.reduceAdd, Nat.reduceMul, Nat.reduceSub, Nat.reduceLeDiff, Nat.reduceLT, Int.reduceToNat, Int.reduceEq, Int.reduceLT, Int.reduceLE, Int.reduceNeg, E0_vc, vaN, PV.avoid, avoidL, Nat.reduceGT, W58, D58, wrB, nl_p, gd_node, nodeP, List.length_map, List.append_assoc, bdw_q, hY1, hY2, o4, RB0]
  refine ⟨rfl, by simp only [ByteArray.size_append, z4]; omega, c, o, _, _, _, _, _, rfl, rfl, hm, hz, b0, by omega, by omega, by simp only [ByteArray.size_append, z4]; omega, fun X' => ?_⟩
  have := hK (Blk.live (nodeP (c.getD i.toNat noNode)).cells :: (X ++ X'))
  simp only [← ByteArray.append_assoc, nodeP, o4] at this
  simp only [List.append_assoc, List.cons_append]
  exact this
 by_cases o5 : (c.getD i.toNat noNode).op = 5
 ·rw [if_neg o1, if_neg o2, if_neg o3, if_neg o4, if_pos o5, o5] at htx
  rw [o5] at hpa hpb
  obtain ⟨⟨a0, a1⟩, b0, b1⟩ := hn.2 (.inr o5)
  rw [htx] at hsz hK
  simp only [ByteArray.size_append, z5] at hsz
  simp -implicitDefEqProofs (maxSteps := 2000000) only [R0, R1, R2, R3, R4, R5, R6, R7, R8, R9, R10, R11, R12, R13, R14, R15, R16, PV.strip, stripL, PV.noref, ri, feedL, feeds, Nat.reduceBEq, Array.toList, ↓reduceIte, forall_const, implies_true, Nat.reduceEqDiff, reduceCtorEq, alP, bxP, bsP, ifP, quiet, riD, bs_l, PV.isRef, plainCell, norefL, PV.scalar, scalarL, PV.cells, PV.solid, PV.one, PV.free, freeL, fillP, splice, Nat.reduceAdd, Nat.reduceMul, Nat.reduceSub, Nat.reduceLeDiff, Nat.reduceLT, Int.reduceToNat, Int.reduceEq, Int.reduceLT, Int.reduceLE, Int.reduceNeg, E0_vc, vaN, PV.avoid, avoidL, Nat.reduceGT, W58, D58, wrB, nl_p, gd_node, nodeP, List.length_map, bdw_q, hY1, hY2, o5, RB0]
  refine ⟨⟨h0, h1⟩, c, o, _, _, _, _, _, rfl, rfl, hm, hz, a0, by omega, by omega, by omega, fun X => ?_⟩
  simp -implicitDefEqProofs (maxSteps := 2000000) only [R0, R1, R2, R3, R4, R5, R6, R7, R8, R9, R10, R11, R12, R13, R14, R15, R16, PV.strip, stripL, PV.noref, ri, feedL, feeds, Nat.reduceBEq, Array.toList, ↓reduceIte, forall_const, implies_true, Nat.reduceEqDiff, reduceCtorEq, alP, bxP, bsP, ifP, quiet, riD, bs_l, PV.isRef, plainCell, norefL, PV.scalar, scalarL, PV.cells, PV.solid, PV.one, PV.free, freeL, fillP, splice, Nat.reduceAdd, Nat.reduceMul, Nat.reduceSub, Nat.reduceLeDiff, Nat.reduceLT, Int.reduceToNat, Int.reduceEq, Int.reduceLT, Int.reduceLE, Int.reduceNeg, E0_vc, vaN, PV.avoid, avoidL, Nat.reduceGT, W58, D58, wrB, nl_p, gd_node, nodeP, List.length_map, List.append_assoc, bdw_q, hY1, hY2, o5, RB0]
  refine ⟨rfl, by simp only [ByteArray.size_append, z5]; omega, c, o, _, _, _, _, _, rfl, rfl, hm, hz, b0, by omega, by omega, by simp only [ByteArray.size_append, z5]; omega, fun X' => ?_⟩
  have := hK (Blk.live (nodeP (c.getD i.toNat noNode)).cells :: (X ++ X'))
  simp only [← ByteArray.append_assoc, nodeP, o5] at this
  simp only [List.append_assoc, List.cons_append]
  exact this
 have := makesC_fields hm _ (nd_mem h0 h1)
 rw [foX o1 o2 o3 o4 o5] at this
 cases this
theorem pNd_all : ∀ k : Nat, Sound Tryz.prog G0 58 (pNdT k)
 | 0 => ⟨⟨_, Tryz.func58, by decide, rfl⟩, fun Pr F R blks w args vs K _ _ _ _ _ hh => by
  obtain ⟨c, o, Y, s, i, _, _, _, _, h0, _, hk, _⟩ := hh
  omega⟩
 | k + 1 => pNd_step k (pPt_step k (pNd_all k))
theorem ba_nil (s : ByteArray) : (⟨#[]⟩ : ByteArray) ++ s = s := ba_ext (by rw [ba_app]; rfl)
theorem bd108 : bldD Tryz.prog 108 = 5 := by kernel_rfl
def D35 : FuncId → Option CB
 | 42 => some (.con (.gen (bldST 5 bldOk) (bldST_mono 5 bldOk)))
 | 50 => some (.fn pCCheckF)
 | 58 => some (.con (.gen (pNdT 2000) (pNdT_mono 2000)))
 | _ => none
theorem D35_ok : AllB E0 D35 := fun g c h => by
 unfold D35 at h
 split at h <;> simp at h <;> subst h
 ·exact bString_ok
 ·exact pCCheck_ok
 ·exact (pNd_all 2000)
theorem pCTx_ok : Sound Tryz.prog G0 35 (conT (CB.fn pCTxF).toCon) := by
 refine fn_frzV (fun _ => [13]) D35_ok mixed true Tryz.func35 (by decide) rfl _ ?_
 intro args ps r hq hp
 obtain ⟨j, o, c, rfl, hj, hx⟩ := onc_inv hq
 obtain ⟨rfl, rfl⟩ := Prod.mk.inj hx
 have hz := hp (szC c) (by simp)
 have hzt := hp (szT c) (by simp)
 refine ⟨by simp [norefL, PV.noref, nr_map nr_node], ?_⟩
 simp only [awpBFn, Tryz.ntmps35, List.length_cons, List.length_nil, Nat.reduceAdd, Nat.reduceSub, List.replicate_succ, List.replicate_zero, List.cons_append, List.nil_append, List.map_cons, List.map_nil]
 have hCE := fun o => pCCheckE (o := o) hj
 have hNE := pNdE 2000
 by_cases hck : checkC c = 0
 case neg =>
  simp -implicitDefEqProofs (maxSteps := 2000000) only [R0, R1, R2, R3, R4, R5, R6, R7, R8, R9, R10, R11, R12, R13, R14, R15, R16, PV.strip, stripL, PV.noref, ri, feedL, feeds, Nat.reduceBEq, Array.toList, ↓reduceIte, forall_const, implies_true, Nat.reduceEqDiff, reduceCtorEq, alP, bxP, bsP, ifP, quiet, riD, bs_l, PV.isRef, plainCell, norefL, PV.scalar, scalarL, PV.cells, PV.solid, PV.one, PV.free, freeL, fillP, splice, Nat.reduceAdd, Nat.reduceMul, Nat.reduceSub, Nat.reduceLeDiff, Nat.reduceLT, Int.reduceToNat, Int.reduceEq, Int.reduceLT, Int.reduceLE, Int.reduceNeg, E0_vc, vaN, PV.avoid, avoidL, Nat.reduceGT, Tryz.results35, bu108, Tryz.underlying25, fa108_1, D35, bStringE, pCCheckE, pNdE, wrB, nl_p, gd_node, nodeP, List.length_map, bdw_q, bd108, hCE, hck, ctB, hNE, RB0]
  exact ⟨hz, frz_nr _ rfl⟩
 obtain ⟨hm, l1, l2⟩ := ckLast hck
 have hj6 : j = 6 := hj.resolve_right (by rintro rfl; simp at l1)
 subst hj6
 have hsz := text_size hm hzt
 simp -implicitDefEqProofs (maxSteps := 2000000) only [R0, R1, R2, R3, R4, R5, R6, R7, R8, R9, R10, R11, R12, R13, R14, R15, R16, PV.strip, stripL, PV.noref, ri, feedL, feeds, Nat.reduceBEq, Array.toList, ↓reduceIte, forall_const, implies_true, Nat.reduceEqDiff, reduceCtorEq, alP, bxP, bsP, ifP, quiet, riD, bs_l, PV.isRef, plainCell, norefL, PV.scalar, scalarL, PV.cells, PV.solid, PV.one, PV.free, freeL, fillP, splice, Nat.reduceAdd, Nat.reduceMul, Nat.reduceSub, Nat.reduceLeDiff, Nat.reduceLT, Int.reduceToNat, Int.reduceEq, Int.reduceLT, Int.reduceLE, Int.reduceNeg, E0_vc, vaN, PV.avoid, avoidL, Nat.reduceGT, Tryz.results35, bu108, Tryz.underlying25, fa108_1, D35, bStringE, pCCheckE, pNdE, wrB, nl_p, gd_node, nodeP, List.length_map, bdw_q, bd108, hCE, hck, ctB, hNE, RB0]
 have z : (⟨#[]⟩ : ByteArray).size = 0 := rfl
 refine ⟨hz, by unfold inI64; omega, c, false, [], _, _, rfl, rfl, hm, hzt, by omega, by omega, by omega, by rw [z]; omega, fun X => ?_⟩
 simp only [wrB, List.getElem?_cons_zero, bds_q, List.set_cons_zero]
 refine ⟨trivial, rfl, rfl, ?_⟩
 rw [frz_nr _ rfl, ba_nil]
end Go.Ve.H
end
