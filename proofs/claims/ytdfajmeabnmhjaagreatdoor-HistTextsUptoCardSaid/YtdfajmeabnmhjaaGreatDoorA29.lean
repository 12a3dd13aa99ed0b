/- weirlaw30.HistTexts: part of the proof (a value semantics for the model's code, and the functions told by it). -/
import Derived.Test.YtdfajmeabnmhjaaGreatDoorA28
set_option linter.unusedSimpArgs false
set_option linter.unusedVariables false
set_option linter.deprecated false
set_option linter.unusedSectionVars false
set_option linter.defProp false
section
set_option maxRecDepth 10000
set_option maxHeartbeats 20000000
namespace Go.Ve.H
open Go Go.Proofs Go.Ve
def rowsL (h : Hist) : ByteArray → List Row → ByteArray
 | s, [] => s
 | s, r :: l => if s.size ≤ 1048576 then rowsL h (s ++ rowB h r) l else s
def logR (h : Hist) : ByteArray := rowsL h (headB h) h.rows ++ tailB h
theorem rowsL_stop {h : Hist} {s : ByteArray} (l : List Row) (hs : 1048576 < s.size) : rowsL h s l = s := by
 cases l with
 | nil => rfl
 | cons r l => rw [rowsL, if_neg (by omega)]
theorem rowsL_le {h : Hist} : ∀ (l : List Row) (s : ByteArray), (rowsB h s l).size ≤ 1048576 → rowsL h s l = rowsB h s l
 | [], s, _ => rfl
 | r :: l, s, hs => by
  rw [rowsB] at hs
  have h2 := rowsB_ge h l (s ++ rowB h r)
  rw [ByteArray.size_append] at h2
  rw [rowsL, if_pos (by omega), rowsL_le l _ hs, rowsB]
where
 rowsB_ge (h : Hist) : ∀ (l : List Row) (s : ByteArray), s.size ≤ (rowsB h s l).size
  | [], s => Nat.le_refl _
  | r :: l, s => by
   have := rowsB_ge h l (s ++ rowB h r)
   rw [ByteArray.size_append] at this
   rw [rowsB]; omega
theorem rowsL_gt {h : Hist} : ∀ (l : List Row) (s : ByteArray), 1048576 < (rowsB h s l).size → 1048576 < (rowsL h s l).size ∨ rowsL h s l = rowsB h s l
 | [], s, hs => .inr rfl
 | r :: l, s, hs => by
  by_cases h1 : s.size ≤ 1048576
  ·rw [rowsL, if_pos h1, rowsB]
   exact rowsL_gt l _ hs
  ·rw [rowsL, if_neg h1]; exact .inl (by omega)
theorem log_eq (h : Hist) : ((logB h).size ≤ 1048576 → logR h = logB h) ∧ (1048576 < (logB h).size → 1048576 < (logR h).size) := by
 unfold logR logB
 simp only [ByteArray.size_append]
 refine ⟨fun hs => by rw [rowsL_le _ _ (by omega)], fun hs => ?_⟩
 by_cases h1 : (rowsB h (headB h) h.rows).size ≤ 1048576
 ·rw [rowsL_le _ _ h1]; exact hs
 ·rcases rowsL_gt (h := h) h.rows (headB h) (by omega) with h2 | h2
  ·omega
  ·rw [h2]; exact hs
def outV (s : ByteArray) : PV := .sl 1 (s.data.toList.map byteP) true
theorem out_app (a b : ByteArray) : a.data.toList.map byteP ++ b.data.toList.map byteP = (a ++ b).data.toList.map byteP := by rw [ba_app, List.map_append]
theorem bytes_out : ∀ l : List UInt8, bytesOf (l.map byteP) = some (l.map fun b => (b.toNat : Int))
 | [] => rfl
 | b :: l => by
  have := bytes_out l
  rw [List.map_cons, bytesOf, this]
  rfl
def wdsC : List PV := [vS ⟨#[]⟩, vS ⟨#[]⟩, vS ⟨#[65, 108, 108, 111, 119, 101, 100]⟩, vS ⟨#[101, 120, 105, 115, 116, 115, 32]⟩, vS ⟨#[70, 111, 114, 98, 105, 100, 100, 101, 110]⟩, vS ⟨#[126, 101, 120, 105, 115, 116, 115, 32]⟩, vS ⟨#[82, 101, 113, 117, 105, 114, 101, 100]⟩, vS ⟨#[102, 111, 114, 97, 108, 108, 32]⟩]
theorem roomy_b {n : Nat} (h : n ≤ 137438953472) : roomy n 1 = true := by unfold roomy; simp; omega
theorem ba_len (a : ByteArray) : a.data.toList.length = a.size := by rw [Array.length_toList]; rfl
theorem szB (a : ByteArray) : a.data.size = a.size := rfl
theorem tail_eq (h : Hist) {a v o : ByteArray} (h1 : okB h = a) (h2 : v ++ (⟨#[79, 98, 115, 101, 114, 118, 97, 116, 105, 111, 110, 32]⟩ : ByteArray) = (⟨#[32, 105, 115, 32]⟩ : ByteArray) ++ isB h ++ (⟨#[10, 79, 98, 115, 101, 114, 118, 97, 116, 105, 111, 110, 32]⟩ : ByteArray)) (h3 : o = (⟨#[32]⟩ : ByteArray) ++ seenB h ++ (⟨#[32]⟩ : ByteArray)) :
  a ++ (⟨#[10, 10, 87, 105, 116, 110, 101, 115, 115, 101, 115, 10, 80, 111, 115, 105, 116, 105, 118, 101, 58, 32]⟩ : ByteArray) ++ itoaB (posN h) ++ (⟨#[44, 32, 78, 101, 103, 97, 116, 105, 118, 101, 58, 32]⟩ : ByteArray) ++ itoaB (negN h) ++ (⟨#[10, 67, 111, 110, 100, 105, 116, 105, 111, 110, 32]⟩ : ByteArray) ++ ((wordsB h.quant).1 ++ (⟨#[32]⟩ : ByteArray)) ++ condB h ++ v ++ (⟨#[79, 98, 115, 101, 114, 118, 97, 116, 105, 111, 110, 32]⟩ : ByteArray) ++ h.name ++ o ++ itoaB (posN h) ++ (⟨#[32]⟩ : ByteArray) ++ itoaB (negN h) ++ (⟨#[10]⟩ : ByteArray) = tailB h := by
 subst h1; subst h3
 have h2' : ∀ r, v ++ ((⟨#[79, 98, 115, 101, 114, 118, 97, 116, 105, 111, 110, 32]⟩ : ByteArray) ++ r) = (⟨#[32, 105, 115, 32]⟩ : ByteArray) ++ (isB h ++ ((⟨#[10, 79, 98, 115, 101, 114, 118, 97, 116, 105, 111, 110, 32]⟩ : ByteArray) ++ r)) := fun r => by rw [← ByteArray.append_assoc, h2]; simp only [ByteArray.append_assoc]
 unfold tailB
 simp only [ByteArray.append_assoc]
 rw [h2']
theorem str_out (s : ByteArray) : strOfNums (s.data.toList.map fun b => (b.toNat : Int)) = s := by
 apply ba_ext
 unfold strOfNums
 rw [List.map_map]
 show List.map _ s.data.toList = s.data.toList
 conv => rhs; rw [← List.map_id s.data.toList]
 refine List.map_congr_left fun b _ => ?_
 simp
theorem out_sp (X : ByteArray) : X.data.toList.map byteP ++ [PV.val (.int .u8 32)] = (X ++ ⟨#[32]⟩).data.toList.map byteP := by rw [← out_app]; rfl
theorem rowsL_go {h : Hist} {s : ByteArray} {i : Nat} (hi : i < h.rows.length) (hs : s.size ≤ 1048576) : rowsL h s (h.rows.drop i) = rowsL h (s ++ rowB h (h.rows.getD i noRow)) (h.rows.drop (i + 1)) := by
 have hn : h.rows[i] = h.rows.getD i noRow := by rw [List.getD_eq_getElem?_getD, List.getElem?_eq_getElem hi]; rfl
 rw [List.drop_eq_getElem_cons hi, rowsL, if_pos hs, hn]
theorem un5 : Tryz.prog.underlying 5 = some (.int .u8) := by kernel_rfl
def rLogF : List PV → Option (List Prop × PV)
 | [p, .sl 0 [] _] => match histD p with
  | some h => some ([SzL h, okH h = true], vS (logR h))
  | none => none
 | _ => none
theorem rLogE {n : ByteArray} {q : Int} {r : List Ref} {s : List Row} {c : List Node} {j1 j2 j3 : Nat} {o1 o2 o3 o : Bool} (h1 : j1 = 2 ∨ r = []) (h2 : j2 = 50 ∨ s = []) (h3 : j3 = 6 ∨ c = []) :
  rLogF [.agg [vS n, vI q, .sl j1 (r.map refP) o1, .sl j2 (s.map rowP) o2, .sl j3 (c.map nodeP) o3], .sl 0 [] o] = some ([SzL ⟨n, q, r, s, c⟩, okH ⟨n, q, r, s, c⟩ = true], vS (logR ⟨n, q, r, s, c⟩)) := by
 simp only [rLogF, histD_of _ _ _ h1 h2 h3]
theorem rLogF_inv {args : List PV} {x : List Prop × PV} (h : rLogF args = some x) : ∃ p o a, args = [p, .sl 0 [] o] ∧ IsH p a ∧ x = ([SzL a, okH a = true], vS (logR a)) := by
 unfold rLogF at h
 split at h
 ·split at h
  ·rename_i h1
   injection h with h
   exact ⟨_, _, _, rfl, histD_inv h1, h.symm⟩
  ·cases h
 ·cases h
theorem rep_succ (k : Nat) : repB ⟨#[32]⟩ (k + 1) = repB ⟨#[32]⟩ k ++ ⟨#[32]⟩ := by
 have go : ∀ k, Lib.repeatL [32] (k + 1) = Lib.repeatL [32] k ++ [32] := by
  intro k
  induction k with
  | zero => rfl
  | succ k ih =>
   show [32] ++ Lib.repeatL [32] (k + 1) = ([32] ++ Lib.repeatL [32] k) ++ [32]
   rw [ih, List.append_assoc]
 apply ba_ext
 rw [ba_app]
 exact go k
def D17 : FuncId → Option CB
 | 7 => some (.fn rCnF)
 | 15 => some (.fn wHoldsF)
 | 43 => some (.fn rNumF)
 | 44 => some (.fn rStTF)
 | 45 => some (.fn rCTxF)
 | _ => none
theorem D17_ok : AllB E0 D17 := fun g c h => by
 unfold D17 at h
 split at h <;> simp at h <;> subst h
 ·exact rCn_ok
 ·exact wHolds_ok
 ·exact rNum_ok
 ·exact rStT_ok
 ·exact rCTx_ok
def W17 := And.intro @Tryz.results17 (And.intro @ag27 (And.intro @sz27 (And.intro @bu91 (And.intro @bu92 (And.intro @zp92 (And.intro @sz92 (And.intro @fa27_0 (And.intro @ag9 (And.intro @sz9 (And.intro @zd9 (And.intro @fa27_1 (And.intro @ag3 (And.intro @sz3 (And.intro @zd3 (And.intro @Tryz.underlying92 (And.intro @sz91 (And.intro @zd91 (And.intro @Tryz.underlying91 (And.intro @fa27_3 (And.intro @ag23 (And.intro @sz23 (And.intro @zd23 (And.intro @Tryz.underlying23 (And.intro @Tryz.underlying77 (And.intro @sz5 (And.intro @zs5 (And.intro @by5 (And.intro @Tryz.underlying9 (And.intro @sz50 (And.intro @zd50 (And.intro @fa50_0 (And.intro @ag2 (And.intro @sz2 (And.intro @zd2 (And.intro @Tryz.underlying90 (And.intro @fa50_1 (And.intro @ag48 (And.intro @sz48 (And.intro @fa27_2 (And.intro @ag22 (And.intro @sz22 (And.intro @zd22 (And.intro @fa27_4 (And.intro @ag25 (And.intro @sz25 (And.intro @zd25 (And.intro @Tryz.underlying5 (And.intro @rCnE (And.intro @wHoldsE (And.intro @rNumE (And.intro @rStTE (@rCTxE))))))))))))))))))))))))))))))))))))))))))))))))))))
theorem rLog_ok : Sound Tryz.prog G0 17 (conT (CB.fn rLogF).toCon) := by
 refine fn_of D17_ok mixed true Tryz.func17 (by decide) rfl _ ?_
 intro args ps r hq hp
 obtain ⟨p, o, h, rfl, hh, hx⟩ := rLogF_inv hq
 obtain ⟨rfl, rfl⟩ := Prod.mk.inj hx
 have hL : SzL h := hp (SzL h) (by simp)
 have hok : okH h = true := hp (okH h = true) (by simp)
 have hz := hL.sz
 refine ⟨by simp only [norefL, nr_hist hh, PV.noref, Bool.and_self], ?_⟩
 simp only [awpBFn, Tryz.ntmps17, List.length_cons, List.length_nil, Nat.reduceAdd, Nat.reduceSub, List.replicate_succ, List.replicate_zero, List.cons_append, List.nil_append, List.map_cons, List.map_nil]
 obtain ⟨j1, o1, j2, o2, j3, o3, rfl, k1, k2, k3⟩ := hh
 have e1 := fun x y z => rCnE (n := h.name) (q := h.quant) (o1 := x) (o2 := y) (o3 := z) k1 k2 k3
 have e2 := fun x y z => wHoldsE (n := h.name) (q := h.quant) (o1 := x) (o2 := y) (o3 := z) k1 k2 k3
 have e3 := fun o => rCTxE (o := o) k3
 have e4 := fun o => rStTE (o := o) k1
 have ho := okH_inv hok
 have hl48 := ho.len
 have hrl := hL.rows
 have hct : ctB h.cond = [vS (condB h), vI 0] := by rw [ctB, if_pos ho.cond]; rfl
 have q0 := ho.q0
 have q1 := ho.q1
 have hqq : h.quant = 1 ∨ h.quant = 2 ∨ h.quant = 3 := by omega
 have hw0 : ([PV.val (.string ⟨#[]⟩), PV.val (.string ⟨#[]⟩), PV.val (.string ⟨#[65, 108, 108, 111, 119, 101, 100]⟩), PV.val (.string ⟨#[101, 120, 105, 115, 116, 115, 32]⟩), PV.val (.string ⟨#[70, 111, 114, 98, 105, 100, 100, 101, 110]⟩), PV.val (.string ⟨#[126, 101, 120, 105, 115, 116, 115, 32]⟩), PV.val (.string ⟨#[82, 101, 113, 117, 105, 114, 101, 100]⟩), PV.val (.string ⟨#[102, 111, 114, 97, 108, 108, 32]⟩)] : List PV).getD (h.quant.toNat * 2) (PV.val (.string ⟨#[]⟩)) = vS (wordsB h.quant).2 := by rcases hqq with e | e | e <;> rw [e] <;> rfl
 have hw1 : ([PV.val (.string ⟨#[]⟩), PV.val (.string ⟨#[]⟩), PV.val (.string ⟨#[65, 108, 108, 111, 119, 101, 100]⟩), PV.val (.string ⟨#[101, 120, 105, 115, 116, 115, 32]⟩), PV.val (.string ⟨#[70, 111, 114, 98, 105, 100, 100, 101, 110]⟩), PV.val (.string ⟨#[126, 101, 120, 105, 115, 116, 115, 32]⟩), PV.val (.string ⟨#[82, 101, 113, 117, 105, 114, 101, 100]⟩), PV.val (.string ⟨#[102, 111, 114, 97, 108, 108, 32]⟩)] : List PV).getD (h.quant.toNat * 2 + 1) (PV.val (.string ⟨#[]⟩)) = vS ((wordsB h.quant).1 ++ ⟨#[32]⟩) := by rcases hqq with e | e | e <;> rw [e] <;> rfl
 have hq4 : ¬ h.quant < 0 ∧ h.quant < 4 := by omega
 simp -implicitDefEqProofs (maxSteps := 2000000) only [R0, R1, R2, R3, R4, R5, R6, R7, R8, R9, R10, R11, R12, R13, R14, R15, R16, PV.strip, stripL, PV.noref, ri, feedL, feeds, Nat.reduceBEq, Array.toList, ↓reduceIte, forall_const, implies_true, Nat.reduceEqDiff, reduceCtorEq, alP, bxP, bsP, ifP, quiet, riD, bs_l, PV.isRef, plainCell, norefL, PV.scalar, scalarL, PV.cells, PV.solid, PV.one, PV.free, freeL, fillP, splice, Nat.reduceAdd, Nat.reduceMul, Nat.reduceSub, Nat.reduceLeDiff, Nat.reduceLT, Int.reduceToNat, Int.reduceEq, Int.reduceLT, Int.reduceLE, Int.reduceNeg, E0_vc, vaN, PV.avoid, avoidL, Nat.reduceGT, W17, D17, List.length_map, e1, e2, e3, e4, cnB, hct, hok, rg1, List.drop_replicate, List.length_replicate, List.replicate_zero, Nat.reduceGT, hw0, hw1, RB0]
 have hh0 := headB_size hL
 have hw := words_size h.quant
 have hnm := hL.name
 have hir : inI64 (h.rows.length : Int) := by unfold inI64; omega
 have hil := itoa_size hir
 refine ⟨hz, .inl (by decide), ?_, ?_, by omega, by omega, ?_, ?_, hir, ?_, ?_, ?_, ?loop⟩
 case loop =>
  refine loopB_by (fun i : Nat => [.junk, .sl 0 [] o, .ptr 0 0, .junk, .junk, vI (posN h), vI (negN h), .junk, .ptr 1 0, outV (rowsB h (headB h) (h.rows.take i)), vI i, .junk, .junk, .junk, .junk, .junk, .junk, .junk, .junk, .junk, .junk, .junk, .junk, .junk, .junk, .junk, .junk, .junk, .junk, .junk, .junk, .junk, .junk, .junk, .junk, .junk, .junk, .junk, .junk, .junk, .junk, .junk, .junk, .junk, .junk, .junk, .junk, .junk, .junk, .junk, .junk, .junk, .junk, .junk, .junk, .junk, .junk, .junk, .junk, .junk, .junk, .junk, .junk, .junk, .junk, .junk, .junk, .junk, .junk, .junk, .junk, .junk, .junk, .junk, .junk, .junk, .junk, .junk, .junk, .junk, .junk, .junk, .junk, .junk, .junk, .junk, .junk, .junk, .junk, .junk, .junk, .junk, .junk, .junk, .junk, .junk, .junk, .junk, .junk, .junk, .junk, .junk, .junk, .junk, .junk, .junk, .junk, .junk, .junk, .junk, .junk, .junk, .junk, .junk, .junk, .junk, .junk, .junk, .junk, .junk, .junk, .junk, .junk, .junk, .junk, .junk, .junk, .junk, .junk, .junk, .junk, .junk, .junk, .junk, .junk, .junk, .junk, .junk, .junk, .junk, .junk, .junk, .junk, .junk, .junk, .junk, .junk, .junk, .junk, .junk, .junk, .junk, .junk, .junk, .junk, .junk, .junk, .junk, .junk, .junk, .junk, .junk, .junk, .junk, .junk, .junk, .junk, .junk, .junk, .junk, .junk, .junk, .junk, .junk, .junk, .junk, .junk, .junk, .junk, .junk, .junk, .junk, .junk, .junk, .junk, .junk, .junk, .junk, .junk, .junk, .junk, .junk, .junk, .junk, .junk, .junk, .junk, .junk, .junk, .junk, .junk, .junk]) (fun _ => [.live (histC h j1 j2 j3 (o1, o2, o3)), .live wdsC])
   (fun i => i ≤ h.rows.length ∧ (rowsB h (headB h) (h.rows.take i)).size ≤ 68157440 ∧ rowsL h (rowsB h (headB h) (h.rows.take i)) (h.rows.drop i) = rowsL h (headB h) h.rows) (fun i => h.rows.length - i) 0 ?_ ?_ ?_
  ·simp only [RG0, RG1, Nat.reduceAdd, ltL, PV.lt, Blk.lt, Nat.reduceLT, Nat.reduceLeDiff, Wk_rfl, ltL_vI, wk_sl, List.take_zero, rowsB, headB, histC, wdsC, outV, ba_app]
   trace_state
  ·exact ⟨Nat.zero_le _, by show (headB h).size ≤ _; omega, rfl⟩
  intro i hP
  have p1 : i ≤ h.rows.length := hP.1
  have p2 : (rowsB h (headB h) (h.rows.take i)).size ≤ 68157440 := hP.2.1
  have p3 : rowsL h (rowsB h (headB h) (h.rows.take i)) (h.rows.drop i) = rowsL h (headB h) h.rows := hP.2.2
  by_cases hc : i < h.rows.length ∧ (rowsB h (headB h) (h.rows.take i)).size ≤ 1048576
  case neg =>
   have hend : rowsL h (headB h) h.rows = rowsB h (headB h) (h.rows.take i) := by
    rw [← p3]
    by_cases hi : i < h.rows.length
    ·exact rowsL_stop _ (by omega)
    ·rw [List.drop_eq_nil_of_le (by omega)]; rfl
   have hcF : ¬ ((i : Int) < h.rows.length ∧ ((rowsB h (headB h) (h.rows.take i)).size : Int) ≤ 1048576) := by omega
   obtain ⟨s1, s2, s3⟩ := ho.sums
   have hip := itoa_size (n := posN h) (by unfold inI64; omega)
   have hin := itoa_size (n := negN h) (by unfold inI64; omega)
   have hcz : (condB h).size ≤ 1073807360 := text_sizeN (N := 1048576) (ckLast ho.cond).1 hL.tx hL.cnames
   rcases hqq with e | e | e
   ·have d1 : decide (h.quant = 1) = true := by rw [e]; rfl
    have d2 : decide (h.quant = 2) = false := by rw [e]; rfl
    have d3 : decide (h.quant = 3) = false := by rw [e]; rfl
    cases hp0 : decide (posN h = 0) <;> cases hn0 : decide (negN h = 0)
    all_goals as_aux_lemma =>
     have dp : decide (0 < posN h) = !decide (posN h = 0) := by
      by_cases hh : posN h = 0
      ·rw [decide_eq_true hh, decide_eq_false (by omega)]; rfl
      ·rw [decide_eq_false hh, decide_eq_true (by omega)]; rfl
     rw [hp0] at dp
     simp -implicitDefEqProofs (maxSteps := 2000000) only [R0, R1, R2, R3, R4, R5, R6, R7, R8, R9, R10, R11, R12, R13, R14, R15, R16, PV.strip, stripL, PV.noref, ri, feedL, feeds, Nat.reduceBEq, Array.toList, ↓reduceIte, forall_const, implies_true, Nat.reduceEqDiff, reduceCtorEq, alP, bxP, bsP, ifP, quiet, riD, bs_l, PV.isRef, plainCell, norefL, PV.scalar, scalarL, PV.cells, PV.solid, PV.one, PV.free, freeL, fillP, splice, Nat.reduceAdd, Nat.reduceMul, Nat.reduceSub, Nat.reduceLeDiff, Nat.reduceLT, Int.reduceToNat, Int.reduceEq, Int.reduceLT, Int.reduceLE, Int.reduceNeg, E0_vc, vaN, PV.avoid, avoidL, Nat.reduceGT, W17, D17, histC, wdsC, outV, gd_row, rowP, List.length_map, ba_len, szB, Array.length_toList, Int.toNat_natCast, hcF, e1, e2, e3, e4, hct, hw0, hw1, out_app, cv_b, cv_u, un5, bytes_out, str_out, d1, d2, d3, dp, hp0, hn0, RB0]
     intro _
     refine ⟨hz.2.2.2, hL.tx, by unfold inI64; omega, by unfold inI64; omega, .inl (by decide), ?_, ?_, ?_, ?_, ?_, by omega, by omega, ?_, ?_, ?_, ?_, ?_, ?_, ?_, ?_, ?_, ?_, roomy_b ?_, ?fin⟩
     case fin =>
      rw [logR, hend]
      refine congrArg (fun z => vS (rowsB h (headB h) (h.rows.take i) ++ z)) ?_
      refine tail_eq h ?t1 ?t2 ?t3
      case t1 => unfold okB validB; rw [e]; (try simp only [hp0, hn0]); try rfl
      case t2 => unfold isB validB; rw [e]; (try simp only [hp0, hn0]); apply ba_ext; simp only [ba_app]; try rfl
      case t3 => unfold seenB; (try simp only [hp0, hn0]); apply ba_ext; simp only [ba_app]; try rfl
     all_goals
      simp only [ByteArray.size_append, bsz, List.size_toArray, List.length_cons, List.length_nil]
      omega
   ·have d1 : decide (h.quant = 1) = false := by rw [e]; rfl
    have d2 : decide (h.quant = 2) = true := by rw [e]; rfl
    have d3 : decide (h.quant = 3) = false := by rw [e]; rfl
    cases hp0 : decide (posN h = 0) <;> cases hn0 : decide (negN h = 0)
    all_goals as_aux_lemma =>
     have dp : decide (0 < posN h) = !decide (posN h = 0) := by
      by_cases hh : posN h = 0
      ·rw [decide_eq_true hh, decide_eq_false (by omega)]; rfl
      ·rw [decide_eq_false hh, decide_eq_true (by omega)]; rfl
     rw [hp0] at dp
     simp -implicitDefEqProofs (maxSteps := 2000000) only [R0, R1, R2, R3, R4, R5, R6, R7, R8, R9, R10, R11, R12, R13, R14, R15, R16, PV.strip, stripL, PV.noref, ri, feedL, feeds, Nat.reduceBEq, Array.toList, ↓reduceIte, forall_const, implies_true, Nat.reduceEqDiff, reduceCtorEq, alP, bxP, bsP, ifP, quiet, riD, bs_l, PV.isRef, plainCell, norefL, PV.scalar, scalarL, PV.cells, PV.solid, PV.one, PV.free, freeL, fillP, splice, Nat.reduceAdd, Nat.reduceMul, Nat.reduceSub, Nat.reduceLeDiff, Nat.reduceLT, Int.reduceToNat, Int.reduceEq, Int.reduceLT, Int.reduceLE, Int.reduceNeg, E0_vc, vaN, PV.avoid, avoidL, Nat.reduceGT, W17, D17, histC, wdsC, outV, gd_row, rowP, List.length_map, ba_len, szB, Array.length_toList, Int.toNat_natCast, hcF, e1, e2, e3, e4, hct, hw0, hw1, out_app, cv_b, cv_u, un5, bytes_out, str_out, d1, d2, d3, dp, hp0, hn0, RB0]
     intro _
     refine ⟨hz.2.2.2, hL.tx, by unfold inI64; omega, by unfold inI64; omega, .inl (by decide), ?_, ?_, ?_, ?_, ?_, by omega, by omega, ?_, ?_, ?_, ?_, ?_, ?_, ?_, ?_, ?_, ?_, roomy_b ?_, ?fin⟩
     case fin =>
      rw [logR, hend]
      refine congrArg (fun z => vS (rowsB h (headB h) (h.rows.take i) ++ z)) ?_
      refine tail_eq h ?t1 ?t2 ?t3
      case t1 => unfold okB validB; rw [e]; (try simp only [hp0, hn0]); try rfl
      case t2 => unfold isB validB; rw [e]; (try simp only [hp0, hn0]); apply ba_ext; simp only [ba_app]; try rfl
      case t3 => unfold seenB; (try simp only [hp0, hn0]); apply ba_ext; simp only [ba_app]; try rfl
     all_goals
      simp only [ByteArray.size_append, bsz, List.size_toArray, List.length_cons, List.length_nil]
      omega
   ·have d1 : decide (h.quant = 1) = false := by rw [e]; rfl
    have d2 : decide (h.quant = 2) = false := by rw [e]; rfl
    have d3 : decide (h.quant = 3) = true := by rw [e]; rfl
    cases hp0 : decide (posN h = 0) <;> cases hn0 : decide (negN h = 0)
    all_goals as_aux_lemma =>
     have dp : decide (0 < posN h) = !decide (posN h = 0) := by
      by_cases hh : posN h = 0
      ·rw [decide_eq_true hh, decide_eq_false (by omega)]; rfl
      ·rw [decide_eq_false hh, decide_eq_true (by omega)]; rfl
     rw [hp0] at dp
     simp -implicitDefEqProofs (maxSteps := 2000000) only [R0, R1, R2, R3, R4, R5, R6, R7, R8, R9, R10, R11, R12, R13, R14, R15, R16, PV.strip, stripL, PV.noref, ri, feedL, feeds, Nat.reduceBEq, Array.toList, ↓reduceIte, forall_const, implies_true, Nat.reduceEqDiff, reduceCtorEq, alP, bxP, bsP, ifP, quiet, riD, bs_l, PV.isRef, plainCell, norefL, PV.scalar, scalarL, PV.cells, PV.solid, PV.one, PV.free, freeL, fillP, splice, Nat.reduceAdd, Nat.reduceMul, Nat.reduceSub, Nat.reduceLeDiff, Nat.reduceLT, Int.reduceToNat, Int.reduceEq, Int.reduceLT, Int.reduceLE, Int.reduceNeg, E0_vc, vaN, PV.avoid, avoidL, Nat.reduceGT, W17, D17, histC, wdsC, outV, gd_row, rowP, List.length_map, ba_len, szB, Array.length_toList, Int.toNat_natCast, hcF, e1, e2, e3, e4, hct, hw0, hw1, out_app, cv_b, cv_u, un5, bytes_out, str_out, d1, d2, d3, dp, hp0, hn0, RB0]
     intro _
     refine ⟨hz.2.2.2, hL.tx, by unfold inI64; omega, by unfold inI64; omega, .inl (by decide), ?_, ?_, ?_, ?_, ?_, by omega, by omega, ?_, ?_, ?_, ?_, ?_, ?_, ?_, ?_, ?_, ?_, roomy_b ?_, ?fin⟩
     case fin =>
      rw [logR, hend]
      refine congrArg (fun z => vS (rowsB h (headB h) (h.rows.take i) ++ z)) ?_
      refine tail_eq h ?t1 ?t2 ?t3
      case t1 => unfold okB validB; rw [e]; (try simp only [hp0, hn0]); try rfl
      case t2 => unfold isB validB; rw [e]; (try simp only [hp0, hn0]); apply ba_ext; simp only [ba_app]; try rfl
      case t3 => unfold seenB; (try simp only [hp0, hn0]); apply ba_ext; simp only [ba_app]; try rfl
     all_goals
      simp only [ByteArray.size_append, bsz, List.size_toArray, List.length_cons, List.length_nil]
      omega
  obtain ⟨hi, hsz⟩ := hc
  have hi' : (i : Int) < h.rows.length := by omega
  have hsz' : ((rowsB h (headB h) (h.rows.take i)).size : Int) ≤ 1048576 := by omega
  have hj2 : j2 = 50 := k2.resolve_right (by intro e; rw [e] at hi; simp at hi)
  have hi0 : ¬ (i : Int) < 0 := by omega
  have hmem : h.rows.getD i noRow ∈ h.rows := by
   rw [List.getD_eq_getElem?_getD, List.getElem?_eq_getElem hi]; exact List.getElem_mem hi
  obtain ⟨hc1, hf1, hf2⟩ := okRows_c ho.rows _ hmem
  obtain ⟨q2, q3, q4⟩ := rowB_parts hL ho hmem
  have hci : inI64 (h.rows.getD i noRow).c := rowB_ci ho hmem
  have hmax : (if 6 - ((itoaB (h.rows.getD i noRow).c).size : Int) > 0 then 6 - ((itoaB (h.rows.getD i noRow).c).size : Int) else 0) = ((6 - (itoaB (h.rows.getD i noRow).c).size : Nat) : Int) := by split <;> omega
  simp -implicitDefEqProofs (maxSteps := 2000000) only [R0, R1, R2, R3, R4, R5, R6, R7, R8, R9, R10, R11, R12, R13, R14, R15, R16, PV.strip, stripL, PV.noref, ri, feedL, feeds, Nat.reduceBEq, Array.toList, ↓reduceIte, forall_const, implies_true, Nat.reduceEqDiff, reduceCtorEq, alP, bxP, bsP, ifP, quiet, riD, bs_l, PV.isRef, plainCell, norefL, PV.scalar, scalarL, PV.cells, PV.solid, PV.one, PV.free, freeL, fillP, splice, Nat.reduceAdd, Nat.reduceMul, Nat.reduceSub, Nat.reduceLeDiff, Nat.reduceLT, Int.reduceToNat, Int.reduceEq, Int.reduceLT, Int.reduceLE, Int.reduceNeg, E0_vc, vaN, PV.avoid, avoidL, Nat.reduceGT, W17, D17, histC, wdsC, outV, gd_row, rowP, PV.cells, tk48, tk48a, len48, hl48, strip_vI, List.length_map, ba_len, szB, Array.length_toList, Int.toNat_natCast, hi', hsz', hi0, hmax, out_app, List.getD_nil, List.getD_cons_zero, e1, e2, e3, e4, hw0, hw1, RB0]
  refine ⟨hj2, by omega, by omega, hci, roomy_b (by omega), by unfold inI64; omega, ?_⟩
  refine loopB_by (fun j : Nat => [.junk, .sl 0 [] o, .ptr 0 0, .junk, .junk, vI (posN h), vI (negN h), .junk, .ptr 1 0, outV (rowsB h (headB h) (h.rows.take i) ++ itoaB (h.rows.getD i noRow).c ++ repB ⟨#[32]⟩ j), vI i, .junk, vI (6 - (itoaB (h.rows.getD i noRow).c).size : Nat), vI j, .junk, .junk, .junk, .junk, .junk, .junk, .junk, .junk, .junk, .junk, .junk, .junk, .junk, .junk, .junk, .junk, .junk, .junk, .junk, .junk, .junk, .junk, .junk, .junk, .junk, .junk, .junk, .junk, .junk, .junk, .junk, .junk, .junk, .junk, .junk, .junk, .junk, .junk, .junk, .junk, .junk, .junk, .junk, .junk, .junk, .junk, .junk, .junk, .junk, .junk, .junk, .junk, .junk, .junk, .junk, .junk, .junk, .junk, .junk, .junk, .junk, .junk, .junk, .junk, .junk, .junk, .junk, .junk, .junk, .junk, .junk, .junk, .junk, .junk, .junk, .junk, .junk, .junk, .junk, .junk, .junk, .junk, .junk, .junk, .junk, .junk, .junk, .junk, .junk, .junk, .junk, .junk, .junk, .junk, .junk, .junk, .junk, .junk, .junk, .junk, .junk, .junk, .junk, .junk, .junk, .junk, .junk, .junk, .junk, .junk, .junk, .junk, .junk, .junk, .junk, .junk, .junk, .junk, .junk, .junk, .junk, .junk, .junk, .junk, .junk, .junk, .junk, .junk, .junk, .junk, .junk, .junk, .junk, .junk, .junk, .junk, .junk, .junk, .junk, .junk, .junk, .junk, .junk, .junk, .junk, .junk, .junk, .junk, .junk, .junk, .junk, .junk, .junk, .junk, .junk, .junk, .junk, .junk, .junk, .junk, .junk, .junk, .junk, .junk, .junk, .junk, .junk, .junk, .junk, .junk, .junk, .junk, .junk, .junk, .junk, .junk, .junk, .junk, .junk, .junk, .junk, .junk, .junk, .junk, .junk, .junk, .junk, .junk]) (fun _ => [.live (histC h j1 j2 j3 (o1, o2, o3)), .live wdsC])
   (fun j => j ≤ 6 - (itoaB (h.rows.getD i noRow).c).size) (fun j => 6 - (itoaB (h.rows.getD i noRow).c).size - j) 0 ?_ ?_ ?_
  ·have h0 : rowsB h (headB h) (h.rows.take i) ++ itoaB (h.rows.getD i noRow).c ++ repB ⟨#[32]⟩ 0 = rowsB h (headB h) (h.rows.take i) ++ itoaB (h.rows.getD i noRow).c := by
    apply ba_ext; rw [ba_app]; exact List.append_nil _
   rw [h0]
   simp only [RG0, RG1, Nat.reduceAdd, ltL, PV.lt, Blk.lt, Nat.reduceLT, Nat.reduceLeDiff, Wk_rfl, ltL_vI, wk_sl, histC, wdsC, outV]
   trace_state
  ·exact Nat.zero_le _
  intro j hQ
  have hjk : j ≤ 6 - (itoaB (h.rows.getD i noRow).c).size := hQ
  have hrz : (repB ⟨#[32]⟩ j).size = j := by rw [repB_size]; exact Nat.one_mul _
  by_cases hjl : j < 6 - (itoaB (h.rows.getD i noRow).c).size
  ·have hjl' : (j : Int) < ((6 - (itoaB (h.rows.getD i noRow).c).size : Nat) : Int) := by omega
   simp -implicitDefEqProofs (maxSteps := 2000000) only [R0, R1, R2, R3, R4, R5, R6, R7, R8, R9, R10, R11, R12, R13, R14, R15, R16, PV.strip, stripL, PV.noref, ri, feedL, feeds, Nat.reduceBEq, Array.toList, ↓reduceIte, forall_const, implies_true, Nat.reduceEqDiff, reduceCtorEq, alP, bxP, bsP, ifP, quiet, riD, bs_l, PV.isRef, plainCell, norefL, PV.scalar, scalarL, PV.cells, PV.solid, PV.one, PV.free, freeL, fillP, splice, Nat.reduceAdd, Nat.reduceMul, Nat.reduceSub, Nat.reduceLeDiff, Nat.reduceLT, Int.reduceToNat, Int.reduceEq, Int.reduceLT, Int.reduceLE, Int.reduceNeg, E0_vc, vaN, PV.avoid, avoidL, Nat.reduceGT, W17, D17, histC, wdsC, outV, gd_row, rowP, List.length_map, ba_len, szB, Array.length_toList, Int.toNat_natCast, hjl', out_app, out_sp, rg1, e1, e2, e3, e4, RB0]
   refine ⟨roomy_b (by simp only [ByteArray.size_append, hrz]; omega), by unfold inI64; omega, j + 1, by omega, by omega, ?_⟩
   rw [rep_succ, ← ByteArray.append_assoc]
   simp only [RG0, RG1, Nat.reduceAdd, ltL, PV.lt, Blk.lt, Nat.reduceLT, Nat.reduceLeDiff, Wk_rfl, ltL_vI, wk_sl, histC, wdsC, outV] <;> first | omega | skip
   all_goals trace_state
  have hjl' : ¬ (j : Int) < ((6 - (itoaB (h.rows.getD i noRow).c).size : Nat) : Int) := by omega
  obtain rfl : j = 6 - (itoaB (h.rows.getD i noRow).c).size := by omega
  have hst : stOk h.refs (h.rows.getD i noRow).f := ⟨hf1, hf2.symm⟩
  have hfl := (h.rows.getD i noRow).f.hl
  have hsS : szS h.refs (h.rows.getD i noRow).f := ⟨fun r hr => ⟨(okRefs_t ho.refs r hr).1, (okRefs_t ho.refs r hr).2, by have := hL.refs r hr; omega⟩, hL.vals _ hmem⟩
  have hrt := rowsB_take (h := h) (s := headB h) hi
  have hrz2 := rowB_size hL ho hmem
  have hsz2 : (rowsB h (headB h) (h.rows.take (i + 1))).size ≤ 68157440 := by rw [hrt, ByteArray.size_append]; omega
  have hf48 : 0 ≤ (h.rows.getD i noRow).f.n ∧ (h.rows.getD i noRow).f.n ≤ 48 := by
   simp only [finOk, Bool.and_eq_true, decide_eq_true_eq] at hf1; exact hf1.1
  cases hb : hldB h (h.rows.getD i noRow).f with
  | true => as_aux_lemma =>
   have hb' : hldB ⟨h.name, h.quant, h.refs, h.rows, h.cond⟩ (h.rows.getD i noRow).f = true := hb
   have hrw : rowsB h (headB h) (h.rows.take i) ++ itoaB (h.rows.getD i noRow).c ++ repB ⟨#[32]⟩ (6 - (itoaB (h.rows.getD i noRow).c).size) ++ (⟨#[42, 62]⟩ ++ stTextB h.refs (h.rows.getD i noRow).f ++ ⟨#[10]⟩) = rowsB h (headB h) (h.rows.take (i + 1)) := by
    rw [hrt, rowB, signB, if_pos hb, padB]
    simp only [ByteArray.append_assoc]
   simp -implicitDefEqProofs (maxSteps := 2000000) only [R0, R1, R2, R3, R4, R5, R6, R7, R8, R9, R10, R11, R12, R13, R14, R15, R16, PV.strip, stripL, PV.noref, ri, feedL, feeds, Nat.reduceBEq, Array.toList, ↓reduceIte, forall_const, implies_true, Nat.reduceEqDiff, reduceCtorEq, alP, bxP, bsP, ifP, quiet, riD, bs_l, PV.isRef, plainCell, norefL, PV.scalar, scalarL, PV.cells, PV.solid, PV.one, PV.free, freeL, fillP, splice, Nat.reduceAdd, Nat.reduceMul, Nat.reduceSub, Nat.reduceLeDiff, Nat.reduceLT, Int.reduceToNat, Int.reduceEq, Int.reduceLT, Int.reduceLE, Int.reduceNeg, E0_vc, vaN, PV.avoid, avoidL, Nat.reduceGT, W17, D17, histC, wdsC, outV, gd_row, rowP, PV.cells, tk48, tk48a, len48, hl48, strip_vI, List.length_map, ba_len, szB, Array.length_toList, Int.toNat_natCast, hjl', hst, hb', out_app, e1, e2, e3, e4, RB0]
   refine ⟨.inl (by decide), hj2, by omega, by omega, hz.2.2.2, by omega, ⟨hf48.1, hf48.2, by omega⟩, .inl (by decide), hj2, by omega, by omega, by omega, hsS, ?_, ?_, roomy_b ?_, by unfold inI64; omega, i + 1, ⟨by omega, by omega, by rw [hrt, ← rowsL_go hi hsz]; exact p3⟩, by omega, ?_⟩
   ·simp only [bsz, List.size_toArray, List.length_cons, List.length_nil]; omega
   ·simp only [ByteArray.size_append, bsz, List.size_toArray, List.length_cons, List.length_nil]; omega
   ·simp only [ByteArray.size_append, repB_size, bsz, List.size_toArray, List.length_cons, List.length_nil]; omega
   ·rw [hrw]
    simp only [RG0, RG1, Nat.reduceAdd, ltL, PV.lt, Blk.lt, Nat.reduceLT, Nat.reduceLeDiff, Wk_rfl, ltL_vI, wk_sl, histC, wdsC, outV] <;> first | omega | skip
    all_goals trace_state
  | false => as_aux_lemma =>
   have hb' : hldB ⟨h.name, h.quant, h.refs, h.rows, h.cond⟩ (h.rows.getD i noRow).f = false := hb
   have hrw : rowsB h (headB h) (h.rows.take i) ++ itoaB (h.rows.getD i noRow).c ++ repB ⟨#[32]⟩ (6 - (itoaB (h.rows.getD i noRow).c).size) ++ (⟨#[58, 62]⟩ ++ stTextB h.refs (h.rows.getD i noRow).f ++ ⟨#[10]⟩) = rowsB h (headB h) (h.rows.take (i + 1)) := by
    rw [hrt, rowB, signB, if_neg (by rw [hb]; decide), padB]
    simp only [ByteArray.append_assoc]
   simp -implicitDefEqProofs (maxSteps := 2000000) only [R0, R1, R2, R3, R4, R5, R6, R7, R8, R9, R10, R11, R12, R13, R14, R15, R16, PV.strip, stripL, PV.noref, ri, feedL, feeds, Nat.reduceBEq, Array.toList, ↓reduceIte, forall_const, implies_true, Nat.reduceEqDiff, reduceCtorEq, alP, bxP, bsP, ifP, quiet, riD, bs_l, PV.isRef, plainCell, norefL, PV.scalar, scalarL, PV.cells, PV.solid, PV.one, PV.free, freeL, fillP, splice, Nat.reduceAdd, Nat.reduceMul, Nat.reduceSub, Nat.reduceLeDiff, Nat.reduceLT, Int.reduceToNat, Int.reduceEq, Int.reduceLT, Int.reduceLE, Int.reduceNeg, E0_vc, vaN, PV.avoid, avoidL, Nat.reduceGT, W17, D17, histC, wdsC, outV, gd_row, rowP, PV.cells, tk48, tk48a, len48, hl48, strip_vI, List.length_map, ba_len, szB, Array.length_toList, Int.toNat_natCast, hjl', hst, hb', out_app, e1, e2, e3, e4, RB0]
   refine ⟨.inl (by decide), hj2, by omega, by omega, hz.2.2.2, by omega, ⟨hf48.1, hf48.2, by omega⟩, .inl (by decide), hj2, by omega, by omega, by omega, hsS, ?_, ?_, roomy_b ?_, by unfold inI64; omega, i + 1, ⟨by omega, by omega, by rw [hrt, ← rowsL_go hi hsz]; exact p3⟩, by omega, ?_⟩
   ·simp only [bsz, List.size_toArray, List.length_cons, List.length_nil]; omega
   ·simp only [ByteArray.size_append, bsz, List.size_toArray, List.length_cons, List.length_nil]; omega
   ·simp only [ByteArray.size_append, repB_size, bsz, List.size_toArray, List.length_cons, List.length_nil]; omega
   ·rw [hrw]
    simp only [RG0, RG1, Nat.reduceAdd, ltL, PV.lt, Blk.lt, Nat.reduceLT, Nat.reduceLeDiff, Wk_rfl, ltL_vI, wk_sl, histC, wdsC, outV] <;> first | omega | skip
    all_goals trace_state
 all_goals
  first | apply roomy_b | skip
  simp only [ByteArray.size_append, ba_len, bsz, List.size_toArray, List.length_cons, List.length_nil]
  omega
end Go.Ve.H
end
