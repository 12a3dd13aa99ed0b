/- weirlaw30.HistTexts: part of the proof (a value semantics for the model's code, and the functions told by it). -/
import Derived.Test.YtdfajmeabnmhjaaGreatDoorA27
set_option linter.unusedSimpArgs false
set_option linter.unusedVariables false
set_option linter.deprecated false
set_option linter.unusedSectionVars false
set_option linter.defProp false
section
set_option maxRecDepth 10000
set_option maxHeartbeats 20000000
namespace Go.Ve.H
open Go Go.Proofs Go.Ve
theorem bsz (d : Array UInt8) : (⟨d⟩ : ByteArray).size = d.size := rfl
structure SzL (h : Hist) : Prop where
 sz : szH h
 tx : szT h.cond
 name : h.name.size ≤ 1048576
 rows : h.rows.length ≤ 1048576
 refs : ∀ r ∈ h.refs, r.n.size ≤ 1048576
 vals : ∀ r ∈ h.rows, ∀ x ∈ r.f.v, inI64 x
 cnames : ∀ n ∈ h.cond, n.ref.n.size ≤ 1048576
def headB (h : Hist) : ByteArray := (⟨#[84, 101, 115, 116, 32]⟩ : ByteArray) ++ h.name ++ (⟨#[32]⟩ : ByteArray) ++ (wordsB h.quant).2 ++ (⟨#[10, 72, 105, 115, 116, 111, 103, 114, 97, 109, 32, 40]⟩ : ByteArray) ++ itoaB h.rows.length ++ (⟨#[32, 115, 116, 97, 116, 101, 115, 41, 10]⟩ : ByteArray)
def signB (h : Hist) (f : Fin) : ByteArray := if hldB h f = true then (⟨#[42, 62]⟩ : ByteArray) else (⟨#[58, 62]⟩ : ByteArray)
def rowB (h : Hist) (r : Row) : ByteArray := padB (itoaB r.c) ++ signB h r.f ++ stTextB h.refs r.f ++ (⟨#[10]⟩ : ByteArray)
def rowsB (h : Hist) : ByteArray → List Row → ByteArray
 | s, [] => s
 | s, r :: l => rowsB h (s ++ rowB h r) l
def okB (h : Hist) : ByteArray := bif validB h.quant (posN h) (negN h) then (⟨#[79, 107]⟩ : ByteArray) else (⟨#[78, 111]⟩ : ByteArray)
def isB (h : Hist) : ByteArray := bif validB h.quant (posN h) (negN h) then (⟨#[118, 97, 108, 105, 100, 97, 116, 101, 100]⟩ : ByteArray) else (⟨#[78, 79, 84, 32, 118, 97, 108, 105, 100, 97, 116, 101, 100]⟩ : ByteArray)
def seenB (h : Hist) : ByteArray := bif decide (posN h = 0) then (⟨#[78, 101, 118, 101, 114]⟩ : ByteArray) else bif decide (negN h = 0) then (⟨#[65, 108, 119, 97, 121, 115]⟩ : ByteArray) else (⟨#[83, 111, 109, 101, 116, 105, 109, 101, 115]⟩ : ByteArray)
def condB (h : Hist) : ByteArray := textD h.cond ((h.cond.length : Int) - 1)
def tailB (h : Hist) : ByteArray := okB h ++ (⟨#[10, 10, 87, 105, 116, 110, 101, 115, 115, 101, 115, 10, 80, 111, 115, 105, 116, 105, 118, 101, 58, 32]⟩ : ByteArray) ++ itoaB (posN h) ++ (⟨#[44, 32, 78, 101, 103, 97, 116, 105, 118, 101, 58, 32]⟩ : ByteArray) ++ itoaB (negN h) ++ (⟨#[10, 67, 111, 110, 100, 105, 116, 105, 111, 110, 32]⟩ : ByteArray) ++ (wordsB h.quant).1 ++ (⟨#[32]⟩ : ByteArray) ++ condB h ++ (⟨#[32, 105, 115, 32]⟩ : ByteArray) ++ isB h ++ (⟨#[10, 79, 98, 115, 101, 114, 118, 97, 116, 105, 111, 110, 32]⟩ : ByteArray) ++ h.name ++ (⟨#[32]⟩ : ByteArray) ++ seenB h ++ (⟨#[32]⟩ : ByteArray) ++ itoaB (posN h) ++ (⟨#[32]⟩ : ByteArray) ++ itoaB (negN h) ++ (⟨#[10]⟩ : ByteArray)
def logB (h : Hist) : ByteArray := rowsB h (headB h) h.rows ++ tailB h
theorem rowsB_succ (h : Hist) : ∀ (l : List Row) (s : ByteArray) (r : Row), rowsB h s (l ++ [r]) = rowsB h s l ++ rowB h r
 | [], s, r => rfl
 | x :: l, s, r => by rw [List.cons_append, rowsB, rowsB_succ h l, rowsB]
theorem rowsB_take {h : Hist} {s : ByteArray} {i : Nat} (hi : i < h.rows.length) : rowsB h s (h.rows.take (i + 1)) = rowsB h s (h.rows.take i) ++ rowB h (h.rows.getD i noRow) := by
 have hn : h.rows[i] = h.rows.getD i noRow := by rw [List.getD_eq_getElem?_getD, List.getElem?_eq_getElem hi]; rfl
 rw [List.take_succ_eq_append_getElem hi, rowsB_succ, hn]
theorem stN_size {N : Nat} : ∀ (l : List Ref) (v : List Int) (i : Nat) (s : ByteArray), (∀ r ∈ l, inI64 r.t ∧ r.n.size ≤ N) → (∀ x ∈ v, inI64 x) → (stB i l v s).size ≤ s.size + l.length * (N + 64)
 | [], v, i, s, _, _ => by simp [stB]
 | r :: l, [], i, s, _, _ => by simp only [stB]; omega
 | r :: l, x :: v, i, s, h, h' => by
  have ih := stN_size l v (i + 1) ((if 0 < i then s ++ ⟨#[32]⟩ else s) ++ refB r ++ ⟨#[61]⟩ ++ itoaB x ++ ⟨#[59]⟩) (fun r hr => h r (by simp [hr])) (fun x hx => h' x (by simp [hx]))
  have h1 := refB_size (h r (by simp)).1
  have h2 := itoa_size (h' x (by simp))
  have h3 := (h r (by simp)).2
  have e : ((if 0 < i then s ++ ⟨#[32]⟩ else s) ++ refB r ++ ⟨#[61]⟩ ++ itoaB x ++ ⟨#[59]⟩).size ≤ s.size + (N + 64) := by
   have z1 : (⟨#[32]⟩ : ByteArray).size = 1 := rfl
   have z2 : (⟨#[61]⟩ : ByteArray).size = 1 := rfl
   have z3 : (⟨#[59]⟩ : ByteArray).size = 1 := rfl
   simp only [ByteArray.size_append, z2, z3]
   split
   ·simp only [ByteArray.size_append, z1]; omega
   ·omega
  rw [stB]
  simp only [List.length_cons]
  rw [Nat.add_mul]
  omega
theorem okRefs_t {l : List Ref} (h : okRefs l = true) : ∀ r ∈ l, inI64 r.t ∧ -1 ≤ r.t := by
 unfold okRefs at h
 simp only [Bool.and_eq_true] at h
 have go : ∀ (l : List Ref) (p : Option Ref), asc p l = true → ∀ r ∈ l, inI64 r.t ∧ -1 ≤ r.t := by
  intro l
  induction l with
  | nil => intro p _ r hr; simp at hr
  | cons x l ih =>
   intro p ha r hr
   rw [asc_cons] at ha
   simp only [Bool.and_eq_true] at ha
   rcases List.mem_cons.1 hr with rfl | hr
   ·have := ha.1.1
    unfold refOk at this
    simp only [Bool.and_eq_true, decide_eq_true_eq] at this
    unfold inI64
    omega
   ·exact ih _ ha.2 r hr
 exact go l none h.1
theorem padB_size {s : ByteArray} (h : s.size ≤ 21) : (padB s).size ≤ 27 := by
 have z : (⟨#[32]⟩ : ByteArray).size = 1 := rfl
 rw [padB, ByteArray.size_append, repB_size, z]; omega
theorem signB_size (h : Hist) (f : Fin) : (signB h f).size = 2 := by unfold signB; split <;> rfl
theorem rowB_ci {h : Hist} (ho : OkH h) {r : Row} (hr : r ∈ h.rows) : inI64 r.c := by
 obtain ⟨h1, _, _⟩ := okRows_c ho.rows r hr
 have h2 : r.c ≤ 9223372036854775807 := by
  have := ho.sums
  have go : ∀ (l : List Row), (∀ r ∈ l, 1 ≤ r.c) → r ∈ l → r.c ≤ cntH h true l + cntH h false l := by
   intro l
   induction l with
   | nil => intro _ h; simp at h
   | cons x l ih =>
    intro hc hm
    have p1 := cntH_pos h true (l := l) fun r hr => hc r (by simp [hr])
    have p2 := cntH_pos h false (l := l) fun r hr => hc r (by simp [hr])
    have p3 := hc x (by simp)
    rw [cntH, cntH]
    rcases List.mem_cons.1 hm with rfl | hm
    ·cases hldB h r.f <;> simp <;> omega
    ·have := ih (fun r hr => hc r (by simp [hr])) hm
     cases hldB h x.f <;> simp <;> omega
  have := go h.rows (fun r hr => (okRows_c ho.rows r hr).1) hr
  unfold posN negN at *
  omega
 unfold inI64; omega
theorem rowB_parts {h : Hist} (hz : SzL h) (ho : OkH h) {r : Row} (hr : r ∈ h.rows) : (itoaB r.c).size ≤ 21 ∧ (padB (itoaB r.c)).size ≤ 27 ∧ (stTextB h.refs r.f).size ≤ 50334720 := by
 have hi := itoa_size (rowB_ci ho hr)
 refine ⟨hi, padB_size hi, ?_⟩
 have hs := stN_size (N := 1048576) h.refs r.f.v 0 ⟨#[]⟩ (fun x hx => ⟨(okRefs_t ho.refs x hx).1, hz.refs x hx⟩) (hz.vals r hr)
 have z : (⟨#[]⟩ : ByteArray).size = 0 := rfl
 have hl := ho.len
 have : h.refs.length * (1048576 + 64) ≤ 48 * (1048576 + 64) := Nat.mul_le_mul_right _ (by omega)
 unfold stTextB
 omega
theorem rowB_size {h : Hist} (hz : SzL h) (ho : OkH h) {r : Row} (hr : r ∈ h.rows) : (rowB h r).size ≤ 67108864 := by
 obtain ⟨_, h1, h2⟩ := rowB_parts hz ho hr
 have h3 := signB_size h r.f
 have z : (⟨#[10]⟩ : ByteArray).size = 1 := rfl
 simp only [rowB, ByteArray.size_append, z]
 omega
theorem words_size (q : Int) : (wordsB q).1.size ≤ 7 ∧ (wordsB q).2.size ≤ 9 := by
 unfold wordsB; split
 ·exact ⟨by decide, by decide⟩
 ·split
  ·exact ⟨by decide, by decide⟩
  ·exact ⟨by decide, by decide⟩
theorem headB_size {h : Hist} (hz : SzL h) : (headB h).size ≤ 2000000 := by
 have h1 := (words_size h.quant).2
 have h2 := itoa_size (n := h.rows.length) (by have := hz.rows; unfold inI64; omega)
 have h3 := hz.name
 simp only [headB, ByteArray.size_append, bsz, List.size_toArray, List.length_cons, List.length_nil]
 omega
theorem rowsB_size {h : Hist} (hz : SzL h) (ho : OkH h) : ∀ (l : List Row) (s : ByteArray), (∀ r ∈ l, r ∈ h.rows) → (rowsB h s l).size ≤ s.size + l.length * 67108864
 | [], s, _ => by simp [rowsB]
 | r :: l, s, hm => by
  have h1 := rowsB_size hz ho l (s ++ rowB h r) fun x hx => hm x (by simp [hx])
  have h2 := rowB_size hz ho (hm r (by simp))
  rw [rowsB]
  rw [ByteArray.size_append] at h1
  rw [List.length_cons, Nat.add_mul]
  omega
theorem pCnE {n : ByteArray} {q : Int} {r : List Ref} {s : List Row} {c : List Node} {j1 j2 j3 : Nat} {o1 o2 o3 : Bool} (h1 : j1 = 2 ∨ r = []) (h2 : j2 = 50 ∨ s = []) (h3 : j3 = 6 ∨ c = []) :
  pCnF [.agg [vS n, vI q, .sl j1 (r.map refP) o1, .sl j2 (s.map rowP) o2, .sl j3 (c.map nodeP) o3]] = some ([szH ⟨n, q, r, s, c⟩], .tuple (cnB ⟨n, q, r, s, c⟩)) := cnE h1 h2 h3
theorem rCnE {n : ByteArray} {q : Int} {r : List Ref} {s : List Row} {c : List Node} {j1 j2 j3 : Nat} {o1 o2 o3 : Bool} (h1 : j1 = 2 ∨ r = []) (h2 : j2 = 50 ∨ s = []) (h3 : j3 = 6 ∨ c = []) :
  rCnF [.agg [vS n, vI q, .sl j1 (r.map refP) o1, .sl j2 (s.map rowP) o2, .sl j3 (c.map nodeP) o3]] = some ([szH ⟨n, q, r, s, c⟩], .tuple (cnB ⟨n, q, r, s, c⟩)) := cnE h1 h2 h3
theorem pStTE {j : Nat} {o : Bool} {l : List Ref} (hj : j = 2 ∨ l = []) (f : Fin) : pStTF [.agg (vI f.n :: f.v.map vI), .sl j (l.map refP) o] = some ([l.length ≤ 1099511627776, szS l f], .tuple (if stOk l f then [vS (stTextB l f), vI 0] else [vS ⟨#[]⟩, vI 4])) := stE hj f
theorem rStTE {j : Nat} {o : Bool} {l : List Ref} (hj : j = 2 ∨ l = []) (f : Fin) : rStTF [.agg (vI f.n :: f.v.map vI), .sl j (l.map refP) o] = some ([l.length ≤ 1099511627776, szS l f], .tuple (if stOk l f then [vS (stTextB l f), vI 0] else [vS ⟨#[]⟩, vI 4])) := stE hj f
theorem wkb_b (T e : TypeId) (pre : List PV) (s : ByteArray) (xs ys : List Blk) : WkB (.bld T e pre s :: xs) (.bld T e pre s :: ys) = WkB xs ys := by simp only [WkB, true_and]
theorem bd79 : bldD Tryz.prog 79 = 5 := by kernel_rfl
def pWrB (h : Hist) : List PV := if okH h = true then [vS (logB h), vI 0] else [vS ⟨#[]⟩, vI 300]
def pWrF := on1h fun h => ([SzL h], .tuple (pWrB h))
theorem pWrE {n : ByteArray} {q : Int} {r : List Ref} {s : List Row} {c : List Node} {j1 j2 j3 : Nat} {o1 o2 o3 : Bool} (h1 : j1 = 2 ∨ r = []) (h2 : j2 = 50 ∨ s = []) (h3 : j3 = 6 ∨ c = []) :
  pWrF [.agg [vS n, vI q, .sl j1 (r.map refP) o1, .sl j2 (s.map rowP) o2, .sl j3 (c.map nodeP) o3]] = some ([SzL ⟨n, q, r, s, c⟩], .tuple (pWrB ⟨n, q, r, s, c⟩)) := by
 simp only [pWrF, on1h, histD_of _ _ _ h1 h2 h3]
def D16 : FuncId → Option CB
 | 6 => some (.fn pCnF)
 | 14 => some (.fn hHoldsF)
 | 34 => some (.fn wordsF)
 | 35 => some (.fn pCTxF)
 | 36 => some (.con (.gen (bldWT 5 bldOk) (bldWT_mono 5 bldOk)))
 | 37 => some (.fn itoaF)
 | 38 => some (.fn pStTF)
 | 39 => some (.fn paddF)
 | 40 => some (.fn wTextF)
 | 41 => some (.fn validF)
 | 42 => some (.con (.gen (bldST 5 bldOk) (bldST_mono 5 bldOk)))
 | _ => none
theorem D16_ok : AllB E0 D16 := fun g c h => by
 unfold D16 at h
 split at h <;> simp at h <;> subst h
 ·exact pCn_ok
 ·exact hHolds_ok
 ·exact words_ok
 ·exact pCTx_ok
 ·exact bWrite_ok
 ·exact itoa_ok
 ·exact pStT_ok
 ·exact padd_ok
 ·exact wText_ok
 ·exact valid_ok
 ·exact bString_ok
def W16 := And.intro @Tryz.results16 (And.intro @ag27 (And.intro @sz27 (And.intro @fa27_1 (And.intro @ag3 (And.intro @sz3 (And.intro @zd3 (And.intro @fa27_4 (And.intro @ag25 (And.intro @sz25 (And.intro @zd25 (And.intro @zp79 (And.intro @fa27_0 (And.intro @ag9 (And.intro @sz9 (And.intro @zd9 (And.intro @fa27_3 (And.intro @ag23 (And.intro @sz23 (And.intro @zd23 (And.intro @Tryz.underlying23 (And.intro @sz50 (And.intro @zd50 (And.intro @ag50 (And.intro @zp50 (And.intro @fa50_1 (And.intro @ag48 (And.intro @sz48 (And.intro @fa27_2 (And.intro @ag22 (And.intro @sz22 (And.intro @zd22 (And.intro @fa50_0 (And.intro @ag2 (And.intro @sz2 (And.intro @zd2 (And.intro @pCnE (And.intro @hHoldsE (And.intro @wordsE (And.intro @pCTxE (And.intro @bWriteE (And.intro @itoaE (And.intro @pStTE (And.intro @paddE (And.intro @wTextE (And.intro @validE (@bStringE))))))))))))))))))))))))))))))))))))))))))))))
theorem pWr_ok : Sound Tryz.prog G0 16 (conT (CB.fn pWrF).toCon) := by
 refine fn_frzV (fun _ => [11]) D16_ok mixed true Tryz.func16 (by decide) rfl _ ?_
 intro args ps r hq hp
 obtain ⟨p, h, rfl, hh, hx⟩ := on1h_inv hq
 obtain ⟨rfl, rfl⟩ := Prod.mk.inj hx
 have hL : SzL h := hp (SzL h) (by simp)
 have hz := hL.sz
 refine ⟨by simp only [norefL, nr_hist hh, Bool.and_self], ?_⟩
 simp only [awpBFn, Tryz.ntmps16, List.length_cons, List.length_nil, Nat.reduceAdd, Nat.reduceSub, List.replicate_succ, List.replicate_zero, List.cons_append, List.nil_append, List.map_cons, List.map_nil]
 obtain ⟨j1, o1, j2, o2, j3, o3, rfl, k1, k2, k3⟩ := hh
 have e1 := fun x y z => pCnE (n := h.name) (q := h.quant) (o1 := x) (o2 := y) (o3 := z) k1 k2 k3
 have e2 := fun x y z => hHoldsE (n := h.name) (q := h.quant) (o1 := x) (o2 := y) (o3 := z) k1 k2 k3
 have e3 := fun o => pCTxE (o := o) k3
 have e4 := fun o => pStTE (o := o) k1
 by_cases hok : okH h = true
 case neg =>
  simp -implicitDefEqProofs (maxSteps := 2000000) only [R0, R1, R2, R3, R4, R5, R6, R7, R8, R9, R10, R11, R12, R13, R14, R15, R16, PV.strip, stripL, PV.noref, ri, feedL, feeds, Nat.reduceBEq, Array.toList, ↓reduceIte, forall_const, implies_true, Nat.reduceEqDiff, reduceCtorEq, alP, bxP, bsP, ifP, quiet, riD, bs_l, PV.isRef, plainCell, norefL, PV.scalar, scalarL, PV.cells, PV.solid, PV.one, PV.free, freeL, fillP, splice, Nat.reduceAdd, Nat.reduceMul, Nat.reduceSub, Nat.reduceLeDiff, Nat.reduceLT, Int.reduceToNat, Int.reduceEq, Int.reduceLT, Int.reduceLE, Int.reduceNeg, E0_vc, vaN, PV.avoid, avoidL, Nat.reduceGT, W16, D16, List.length_map, e1, e2, e3, e4, bdw_q, bds_q, bd79, cnB, pWrB, hok, RB0]
  exact ⟨hz, frz_nr _ rfl⟩
 have ho := okH_inv hok
 have hl48 := ho.len
 have hrl := hL.rows
 have hct : ctB h.cond = [vS (condB h), vI 0] := by rw [ctB, if_pos ho.cond]; rfl
 simp -implicitDefEqProofs (maxSteps := 2000000) only [R0, R1, R2, R3, R4, R5, R6, R7, R8, R9, R10, R11, R12, R13, R14, R15, R16, PV.strip, stripL, PV.noref, ri, feedL, feeds, Nat.reduceBEq, Array.toList, ↓reduceIte, forall_const, implies_true, Nat.reduceEqDiff, reduceCtorEq, alP, bxP, bsP, ifP, quiet, riD, bs_l, PV.isRef, plainCell, norefL, PV.scalar, scalarL, PV.cells, PV.solid, PV.one, PV.free, freeL, fillP, splice, Nat.reduceAdd, Nat.reduceMul, Nat.reduceSub, Nat.reduceLeDiff, Nat.reduceLT, Int.reduceToNat, Int.reduceEq, Int.reduceLT, Int.reduceLE, Int.reduceNeg, E0_vc, vaN, PV.avoid, avoidL, Nat.reduceGT, W16, D16, List.length_map, e1, e2, e3, e4, bdw_q, bds_q, bd79, cnB, pWrB, hct, hok, RB0]
 have hh0 := headB_size hL
 have hw := words_size h.quant
 have hnm := hL.name
 have hir : inI64 (h.rows.length : Int) := by unfold inI64; omega
 have hil := itoa_size hir
 refine ⟨hz, hz.2.2.2, hL.tx, .inl (by decide), ?_, ?_, ?_, ?_, hir, ?_, ?_, rfl, ?_, ?loop⟩
 case loop =>
  refine loopB_by (fun i : Nat => [.junk, .ptr 0 0, .junk, .junk, vI (posN h), vI (negN h), .junk, vS (wordsB h.quant).1, .junk, vS (condB h), .junk, .ptr 1 0, .junk, .junk, .junk, .junk, .junk, .junk, .junk, .junk, .junk, .junk, .junk, .junk, .junk, .junk, .junk, .junk, .junk, .junk, .junk, .junk, .junk, .junk, .junk, .junk, .junk, .junk, .junk, .junk, .junk, .junk, .junk, .junk, .junk, .junk, .junk, .junk, .junk, .junk, .junk, .junk, .junk, .junk, .junk, .junk, .junk, .junk, .sl j2 (h.rows.map rowP) false, vI h.rows.length, vI i, .junk, .junk, .junk, .junk, .junk, .junk, .junk, .junk, .junk, .junk, .junk, .junk, .junk, .junk, .junk, .junk, .junk, .junk, .junk, .junk, .junk, .junk, .junk, .junk, .junk, .junk, .junk, .junk, .junk, .junk, .junk, .junk, .junk, .junk, .junk, .junk, .junk, .junk, .junk, .junk, .junk, .junk, .junk, .junk, .junk, .junk, .junk, .junk, .junk, .junk, .junk, .junk, .junk, .junk, .junk, .junk, .junk, .junk, .junk, .junk, .junk, .junk, .junk, .junk, .junk, .junk, .junk, .junk, .junk, .junk, .junk]) (fun i => [.live (histC h j1 j2 j3 (o1, o2, o3)), .bld 79 5 [] (rowsB h (headB h) (h.rows.take i))])
   (fun i => i ≤ h.rows.length) (fun i => h.rows.length - i) 0 ?_ ?_ ?_
  ·simp only [RG0, RG1, Nat.reduceAdd, ltL, PV.lt, Blk.lt, Nat.reduceLT, Nat.reduceLeDiff, Wk_rfl, ltL_vI, wk_sl, List.take_zero, rowsB, headB, histC, ba_nil, wkb_b]
  ·exact Nat.zero_le _
  intro i hP
  have p1 : i ≤ h.rows.length := hP
  by_cases hi : i < h.rows.length
  case neg =>
   have hi' : ¬ (i : Int) < h.rows.length := by omega
   obtain ⟨s1, s2, s3⟩ := ho.sums
   have hip := itoa_size (n := posN h) (by unfold inI64; omega)
   have hin := itoa_size (n := negN h) (by unfold inI64; omega)
   have hcz : (condB h).size ≤ 1099511693312 := text_size (ckLast ho.cond).1 hL.tx
   have hrs := rowsB_size hL ho h.rows (headB h) fun _ hr => hr
   have hrm : h.rows.length * 67108864 ≤ 1048576 * 67108864 := Nat.mul_le_mul_right _ hrl
   have htk : h.rows.take i = h.rows := List.take_of_length_le (by omega)
   rw [htk]
   have hlog : ∀ a b c : ByteArray, okB h = a → isB h = b → seenB h = c → logB h = rowsB h (headB h) h.rows ++ (a ++ (⟨#[10, 10, 87, 105, 116, 110, 101, 115, 115, 101, 115, 10, 80, 111, 115, 105, 116, 105, 118, 101, 58, 32]⟩ : ByteArray) ++ itoaB (posN h) ++ (⟨#[44, 32, 78, 101, 103, 97, 116, 105, 118, 101, 58, 32]⟩ : ByteArray) ++ itoaB (negN h) ++ (⟨#[10, 67, 111, 110, 100, 105, 116, 105, 111, 110, 32]⟩ : ByteArray) ++ (wordsB h.quant).1 ++ (⟨#[32]⟩ : ByteArray) ++ condB h ++ (⟨#[32, 105, 115, 32]⟩ : ByteArray) ++ b ++ (⟨#[10, 79, 98, 115, 101, 114, 118, 97, 116, 105, 111, 110, 32]⟩ : ByteArray) ++ h.name ++ (⟨#[32]⟩ : ByteArray) ++ c ++ (⟨#[32]⟩ : ByteArray) ++ itoaB (posN h) ++ (⟨#[32]⟩ : ByteArray) ++ itoaB (negN h) ++ (⟨#[10]⟩ : ByteArray)) := by
    rintro a b c rfl rfl rfl; rfl
   cases hv : validB h.quant (posN h) (negN h) <;> cases hp0 : decide (posN h = 0) <;> cases hn0 : decide (negN h = 0)
   all_goals
    simp -implicitDefEqProofs (maxSteps := 2000000) only [R0, R1, R2, R3, R4, R5, R6, R7, R8, R9, R10, R11, R12, R13, R14, R15, R16, PV.strip, stripL, PV.noref, ri, feedL, feeds, Nat.reduceBEq, Array.toList, ↓reduceIte, forall_const, implies_true, Nat.reduceEqDiff, reduceCtorEq, alP, bxP, bsP, ifP, quiet, riD, bs_l, PV.isRef, plainCell, norefL, PV.scalar, scalarL, PV.cells, PV.solid, PV.one, PV.free, freeL, fillP, splice, Nat.reduceAdd, Nat.reduceMul, Nat.reduceSub, Nat.reduceLeDiff, Nat.reduceLT, Int.reduceToNat, Int.reduceEq, Int.reduceLT, Int.reduceLE, Int.reduceNeg, E0_vc, vaN, PV.avoid, avoidL, Nat.reduceGT, W16, D16, histC, gd_row, rowP, List.length_map, Int.toNat_natCast, hi', e1, e2, e3, e4, bdw_q, bds_q, bd79, hv, hp0, hn0, RB0]
    refine ⟨by unfold inI64; omega, by unfold inI64; omega, ?_, ?_, ?_, ?_, ?_, ?_, ?_, ?_, ?_, ?_, ?_, ?_, ?_, ?_, ?_, ?_, ?_, ?_, ?_, rfl, ?_, rfl, (frz_nr _ rfl).trans (congrArg (fun z => PV.tuple [vS z, vI 0]) (hlog _ _ _ (by rw [okB, hv]; rfl) (by rw [isB, hv]; rfl) (by rw [seenB, hp0]; first | rfl | (rw [hn0]; rfl))).symm)⟩
    all_goals
     simp only [ByteArray.size_append, bsz, List.size_toArray, List.length_cons, List.length_nil]
     omega
  have hi' : (i : Int) < h.rows.length := by omega
  have hj2 : j2 = 50 := k2.resolve_right (by intro e; rw [e] at hi; simp at hi)
  have hmem : h.rows.getD i noRow ∈ h.rows := by
   rw [List.getD_eq_getElem?_getD, List.getElem?_eq_getElem hi]; exact List.getElem_mem hi
  obtain ⟨hc1, hf1, hf2⟩ := okRows_c ho.rows _ hmem
  have hst : stOk h.refs (h.rows.getD i noRow).f := ⟨hf1, hf2.symm⟩
  have hfl := (h.rows.getD i noRow).f.hl
  obtain ⟨q1, q2, q3⟩ := rowB_parts hL ho hmem
  have hrz := rowB_size hL ho hmem
  have hrt := rowsB_take (s := headB h) hi
  have hlm : 48 ≤ (List.map vI (h.rows.getD i noRow).f.v ++ List.replicate (50 - ((h.rows.getD i noRow).f.v.length + 1 + 1)) (PV.val (.int .i64 0))).length := by
   rw [List.length_append, List.length_map, hfl]; omega
  have hsS : szS h.refs (h.rows.getD i noRow).f := ⟨fun r hr => ⟨(okRefs_t ho.refs r hr).1, (okRefs_t ho.refs r hr).2, by have := hL.refs r hr; omega⟩, hL.vals _ hmem⟩
  have hci : inI64 (h.rows.getD i noRow).c := rowB_ci ho hmem
  have hrs := rowsB_size hL ho (h.rows.take i) (headB h) fun _ hr => List.mem_of_mem_take hr
  have hrm : (h.rows.take i).length * 67108864 ≤ 1048576 * 67108864 := Nat.mul_le_mul_right _ (by rw [List.length_take]; omega)
  cases hb : hldB h (h.rows.getD i noRow).f with
  | true =>
   have hb' : hldB ⟨h.name, h.quant, h.refs, h.rows, h.cond⟩ (h.rows.getD i noRow).f = true := hb
   have hrw : rowB h (h.rows.getD i noRow) = padB (itoaB (h.rows.getD i noRow).c) ++ ⟨#[42, 62]⟩ ++ stTextB h.refs (h.rows.getD i noRow).f ++ ⟨#[10]⟩ := by rw [rowB, signB, if_pos hb]
   rw [hrw] at hrt hrz
   simp -implicitDefEqProofs (maxSteps := 2000000) only [R0, R1, R2, R3, R4, R5, R6, R7, R8, R9, R10, R11, R12, R13, R14, R15, R16, PV.strip, stripL, PV.noref, ri, feedL, feeds, Nat.reduceBEq, Array.toList, ↓reduceIte, forall_const, implies_true, Nat.reduceEqDiff, reduceCtorEq, alP, bxP, bsP, ifP, quiet, riD, bs_l, PV.isRef, plainCell, norefL, PV.scalar, scalarL, PV.cells, PV.solid, PV.one, PV.free, freeL, fillP, splice, Nat.reduceAdd, Nat.reduceMul, Nat.reduceSub, Nat.reduceLeDiff, Nat.reduceLT, Int.reduceToNat, Int.reduceEq, Int.reduceLT, Int.reduceLE, Int.reduceNeg, E0_vc, vaN, PV.avoid, avoidL, Nat.reduceGT, W16, D16, histC, gd_row, rowP, PV.cells, tk48, tk48a, len48, hl48, strip_vI, List.replicate_zero, List.append_nil, List.drop_replicate, Nat.sub_self, List.length_map, Int.toNat_natCast, hi', e1, e2, e3, e4, bdw_q, bds_q, bd79, hst, hb', RB0]
   refine ⟨hj2, by omega, by omega, hfl, by omega, hlm, hz.2.2.2, by omega, hlm, by omega, hsS, by omega, hci, by omega, ?_, ?_, ?_, rfl, by omega, by unfold inI64; omega, i + 1, by omega, by omega, ?_⟩
   ·simp only [bsz, List.size_toArray, List.length_cons, List.length_nil]; omega
   ·simp only [ByteArray.size_append, bsz, List.size_toArray, List.length_cons, List.length_nil]; omega
   ·simp only [ByteArray.size_append, bsz, List.size_toArray, List.length_cons, List.length_nil]; omega
   ·rw [hrt]
    simp only [RG0, RG1, Nat.reduceAdd, ltL, PV.lt, Blk.lt, Nat.reduceLT, Nat.reduceLeDiff, Wk_rfl, ltL_vI, wk_sl, histC, wkb_b] <;> first | omega | skip
    all_goals trace_state
  | false =>
   have hb' : hldB ⟨h.name, h.quant, h.refs, h.rows, h.cond⟩ (h.rows.getD i noRow).f = false := hb
   have hrw : rowB h (h.rows.getD i noRow) = padB (itoaB (h.rows.getD i noRow).c) ++ ⟨#[58, 62]⟩ ++ stTextB h.refs (h.rows.getD i noRow).f ++ ⟨#[10]⟩ := by rw [rowB, signB, if_neg (by rw [hb]; decide)]
   rw [hrw] at hrt hrz
   simp -implicitDefEqProofs (maxSteps := 2000000) only [R0, R1, R2, R3, R4, R5, R6, R7, R8, R9, R10, R11, R12, R13, R14, R15, R16, PV.strip, stripL, PV.noref, ri, feedL, feeds, Nat.reduceBEq, Array.toList, ↓reduceIte, forall_const, implies_true, Nat.reduceEqDiff, reduceCtorEq, alP, bxP, bsP, ifP, quiet, riD, bs_l, PV.isRef, plainCell, norefL, PV.scalar, scalarL, PV.cells, PV.solid, PV.one, PV.free, freeL, fillP, splice, Nat.reduceAdd, Nat.reduceMul, Nat.reduceSub, Nat.reduceLeDiff, Nat.reduceLT, Int.reduceToNat, Int.reduceEq, Int.reduceLT, Int.reduceLE, Int.reduceNeg, E0_vc, vaN, PV.avoid, avoidL, Nat.reduceGT, W16, D16, histC, gd_row, rowP, PV.cells, tk48, tk48a, len48, hl48, strip_vI, List.replicate_zero, List.append_nil, List.drop_replicate, Nat.sub_self, List.length_map, Int.toNat_natCast, hi', e1, e2, e3, e4, bdw_q, bds_q, bd79, hst, hb', RB0]
   refine ⟨hj2, by omega, by omega, hfl, by omega, hlm, hz.2.2.2, by omega, hlm, by omega, hsS, by omega, hci, by omega, ?_, ?_, ?_, rfl, by omega, by unfold inI64; omega, i + 1, by omega, by omega, ?_⟩
   ·simp only [bsz, List.size_toArray, List.length_cons, List.length_nil]; omega
   ·simp only [ByteArray.size_append, bsz, List.size_toArray, List.length_cons, List.length_nil]; omega
   ·simp only [ByteArray.size_append, bsz, List.size_toArray, List.length_cons, List.length_nil]; omega
   ·rw [hrt]
    simp only [RG0, RG1, Nat.reduceAdd, ltL, PV.lt, Blk.lt, Nat.reduceLT, Nat.reduceLeDiff, Wk_rfl, ltL_vI, wk_sl, histC, wkb_b] <;> first | omega | skip
    all_goals trace_state
 all_goals
  simp only [ByteArray.size_append, bsz, List.size_toArray, List.length_cons, List.length_nil]
  omega
end Go.Ve.H
end
